/- Bytes as a text, comparisons, methods. Holds for every program. -/
import Derived.Test.YtnfijnioclcnmaaDoorEvOps5
namespace Go.Ev
open Go
section
variable {P : Program}

theorem sr_forIn {β : Type} {f f' : Value → β → Sem (ForInStep β)} {l l' : List Value} : ∀ {κ : K}, VL κ l l' →
    (∀ κ1 v v' b, κ.le κ1 → VR κ1 v v' → SR P EqR κ1 (f v b) (f' v' b)) → ∀ b, SR P EqR κ (forIn l b f) (forIn l' b f') := by
  induction l generalizing l' with
  | nil => intro κ h hf b; cases h; exact .pure rfl
  | cons x l ih =>
    intro κ h hf b
    cases h with
    | cons h1 h2 =>
      simp only [List.forIn_cons]
      refine SR.bind' (hf κ _ _ b (K.le_refl κ) h1) ?_
      rintro κ1 r _ hk rfl
      cases r with
      | done b => exact .pure rfl
      | yield b => exact ih (h2.mono hk) (fun κ2 v v' b hk2 hv => hf κ2 v v' b (K.le_trans hk hk2) hv) b

theorem sr_bytesToString {κ : K} {v v' : Value} (h : VR κ v v') : SR P VR κ (Conv.bytesToString v) (Conv.bytesToString v') := by
  unfold Conv.bytesToString
  cases h with
  | sliceNil n c => exact .pure (.string _)
  | slice hs =>
    rename_i a a' n c c'
    dsimp only
    have : SR P AR κ (loadCells a n) (loadCells a' n) := by
      by_cases h0 : n = 0
      · subst h0; exact .pure .nil
      · exact sr_loadCells (hs.addr h0) n
    refine SR.bind' this ?_
    intro κ1 cs cs' hk hcs
    rw [← Array.forIn_toList, ← Array.forIn_toList]
    refine SR.bind' (sr_forIn hcs ?_ _) ?_
    · intro κ2 v v' b hk2 hv
      cases hv with
      | int k n => cases k <;> first | exact .pure rfl | exact .halt
      | _ => exact .halt
    · rintro κ2 s _ hk2 rfl
      exact .pure (.string _)
  | _ => exact .halt

/-- What is held against what: something that bears an address against a nil of its kind. -/
def nilPair : Value → Value → Bool
  | .pointer none, .pointer _ | .pointer _, .pointer none => true
  | .slice none _ _, .slice _ _ _ | .slice _ _ _, .slice none _ _ => true
  | .map none, .map _ | .map _, .map none => true
  | .nilFunc, .func _ _ _ | .func _ _ _, .nilFunc => true
  | .nilIface, .iface _ _ | .iface _ _, .nilIface => true
  | _, _ => false
theorem sr_equal_nil {κ : K} (t : TypeId) {x x' y y' : Value} (hx : VR κ x x') (hy : VR κ y y') (hp : nilPair x y = true) : SR P EqR κ (Op.equal t x y) (Op.equal t x' y') := by
  unfold Op.equal Op.maxDepth Op.equalIn
  refine SR.bind' (sr_underlying t) ?_
  rintro κ1 d _ hk rfl
  cases hx <;> cases hy <;> first
    | (cases hp; done)
    | (cases d <;> first | exact .pure rfl | exact .halt)

theorem AddrR.inj {κ : K} {a b a' b' : Addr} (ha : AddrR κ a a') (hb : AddrR κ b b') (he : a.block = b.block) : (a' == b') = (a == b) := by
  obtain ⟨h1, x, hx, rfl⟩ := ha
  obtain ⟨h2, y, hy, rfl⟩ := hb
  rw [he, hy] at hx
  cases hx
  obtain ⟨ab, ao, as⟩ := a
  obtain ⟨bb, bo, bs⟩ := b
  simp only [] at he h1 h2
  subst he h1 h2
  rw [Bool.eq_iff_iff]
  simp only [beq_iff_eq, Addr.mk.injEq, true_and, and_true]
  omega
theorem sr_sameAddr {κ : K} {a b a' b' : Addr} (ha : AddrR κ a a') (hb : AddrR κ b b') : SR P EqR κ (sameAddr a b) (sameAddr a' b') := by
  unfold sameAddr
  by_cases he : a.block = b.block
  · have he' : a'.block = b'.block := by
      obtain ⟨h1, x, hx, rfl⟩ := ha
      obtain ⟨h2, y, hy, rfl⟩ := hb
      rw [he, hy] at hx
      cases hx; rfl
    simp only [he, he', beq_self_eq_true, if_true]
    refine .pure ?_
    exact (AddrR.inj ha hb he).symm
  · have : (a.block == b.block) = false := by simpa using he
    simp only [this, Bool.false_eq_true, if_false]
    exact .triv fun _ => rfl
theorem sr_equal_ptr {κ : K} (t : TypeId) (ht : ∃ e, P.underlying t = some (.pointer e)) {a b a' b' : Addr} (ha : AddrR κ a a') (hb : AddrR κ b b') :
    SR P EqR κ (Op.equal t (.pointer (some a)) (.pointer (some b))) (Op.equal t (.pointer (some a')) (.pointer (some b'))) := by
  unfold Op.equal Op.maxDepth Op.equalIn
  refine SR.bind' (sr_underlying' t) ?_
  rintro κ1 d _ hk ⟨rfl, hd⟩
  obtain ⟨e, he⟩ := ht
  rw [hd] at he
  cases he
  dsimp only
  refine SR.bind' (sr_sizeOf e) ?_
  rintro κ2 n _ hk2 rfl
  split
  · exact sr_sameAddr ((ha.mono hk).mono hk2) ((hb.mono hk).mono hk2)
  · by_cases hab : a = b
    · subst hab
      have : a' = b' := by
        obtain ⟨_, x, hx, rfl⟩ := ha
        obtain ⟨_, y, hy, rfl⟩ := hb
        rw [hx] at hy; cases hy; rfl
      subst this
      simp only [beq_self_eq_true, if_true]
      exact .pure rfl
    · have : (a == b) = false := by simpa using hab
      rw [this]
      simp only [Bool.false_eq_true, if_false]
      exact .triv fun _ => rfl

/-! ### methods -/

/-- The fields on the ways to promoted methods have cells. -/
def PathsOk (P : Program) : Prop := ∀ t i m s fields f, P.info? t = some i → m ∈ i.methods → s ∈ m.path → P.underlying s.struct = some (.struct fields) → fields[s.index]? = some f → P.cellsOf f.type ≠ 0

inductive PlR (κ : K) : Place → Place → Prop
  | val {v v' : Value} : VR κ v v' → PlR κ (.val v) (.val v')
  | var {a a' : Addr} : AddrR κ a a' → PlR κ (.var a) (.var a')
theorem PlR.mono {κ κ' : K} (hk : κ.le κ') {a b : Place} (h : PlR κ a b) : PlR κ' a b := by
  cases h with
  | val h => exact .val (h.mono hk)
  | var h => exact .var (h.mono hk)
theorem sr_get {κ : K} (t : TypeId) {x x' : Place} (h : PlR κ x x') : SR P VR κ (x.get t) (x'.get t) := by
  cases h with
  | val h => exact .pure h
  | var h => exact sr_loadVar t h
theorem sr_fieldPlace {κ : K} {a a' : Addr} (h : AddrR κ a a') (f : Field) (hf : P.cellsOf f.type ≠ 0) : SR P AddrR κ (fieldPlace a f) (fieldPlace a' f) := by
  unfold fieldPlace
  refine SR.bind' (sr_sizeOf' f.type) ?_
  rintro κ1 sz _ hk ⟨rfl, hsz⟩
  rw [if_neg (by omega), if_neg (by omega)]
  exact .pure ((h.mono hk).add _)
theorem sr_follow : ∀ (path : List FieldStep), (∀ s ∈ path, ∀ fields f, P.underlying s.struct = some (.struct fields) → fields[s.index]? = some f → P.cellsOf f.type ≠ 0) →
    ∀ {κ : K} (t : TypeId) {x x' : Place}, PlR κ x x' → SR P (fun κ a b => a.1 = b.1 ∧ PlR κ a.2 b.2) κ (follow path t x) (follow path t x')
  | [], _, κ, t, x, x', h => .pure ⟨rfl, h⟩
  | s :: rest, hp, κ, t, x, x', h => by
    unfold follow
    refine SR.bind' (sr_underlying' s.struct) ?_
    rintro κ1 d _ hk ⟨rfl, hd⟩
    have ih : ∀ {κ : K} (t : TypeId) {x x' : Place}, PlR κ x x' → SR P (fun κ a b => a.1 = b.1 ∧ PlR κ a.2 b.2) κ (follow rest t x) (follow rest t x') := sr_follow rest fun s' hs' => hp s' (by simp [hs'])
    cases d with
    | struct fields =>
      dsimp only
      cases hf : fields[s.index]? with
      | none => exact .halt
      | some f =>
        have hfz := hp s (by simp) fields f hd hf
        dsimp only
        cases hdr : s.deref with
        | true =>
          simp only [if_true]
          refine SR.bind' (sr_get t (h.mono hk)) ?_
          intro κ2 v v' hk2 hv
          refine SR.bind' (sr_asAddr hv) ?_
          intro κ3 a a' hk3 ha
          refine SR.bind' (sr_fieldPlace ha f hfz) ?_
          intro κ4 b b' hk4 hb
          exact ih f.type (.var hb)
        | false =>
          simp only [Bool.false_eq_true, if_false]
          have hx := h.mono hk
          cases hx with
          | var ha =>
            dsimp only
            refine SR.bind' (sr_fieldPlace ha f hfz) ?_
            intro κ4 b b' hk4 hb
            exact ih f.type (.var hb)
          | val hv =>
            cases hv with
            | agg hl =>
              dsimp only
              refine SR.bind' (sr_part f.type (AR.of_list hl) _) ?_
              intro κ2 v v' hk2 hv
              exact ih f.type (.val hv)
            | _ => exact .halt
    | _ => exact .halt
theorem sr_receiverAt {κ : K} (t : TypeId) {x x' : Place} (h : PlR κ x x') (p : Bool) (w : Option String) : SR P VR κ (receiverAt t x p w) (receiverAt t x' p w) := by
  unfold receiverAt
  refine SR.bind' (sr_underlying t) ?_
  rintro κ1 d _ hk rfl
  have hx := h.mono hk
  have plain : SR P VR κ1 (match p, x with
      | true, .var a => pure (.pointer (some a))
      | true, .val _ => stuck "method row: a pointer method of a value without an address"
      | false, x => x.get t : Sem Value) (match p, x' with
      | true, .var a => pure (.pointer (some a))
      | true, .val _ => stuck "method row: a pointer method of a value without an address"
      | false, x => x.get t) := by
    cases p with
    | false => cases hx <;> first | exact sr_get t (.val (by assumption)) | exact sr_get t (.var (by assumption))
    | true => cases hx with
      | val hq => exact .halt
      | var hq => exact .pure (.ptr hq)
  cases d with
  | pointer e =>
    cases p with
    | true => exact sr_get t hx
    | false =>
      dsimp only
      refine SR.bind' (sr_get t hx) ?_
      intro κ2 v v' hk2 hv
      have fin : ∀ {κ : K} {v v' : Value}, VR κ v v' → SR P VR κ (do loadVar e (← asAddr v)) (do loadVar e (← asAddr v')) := fun hv =>
        SR.bind' (sr_asAddr hv) fun _ _ _ _ ha => sr_loadVar e ha
      cases w with
      | none => exact fin hv
      | some name =>
        dsimp only
        cases hv with
        | ptr ha =>
          show SR P VR κ2 (Builtin.ssaWrapNilChk_ _ _ #[_, .string _, .string _] >>= _) (Builtin.ssaWrapNilChk_ _ _ #[_, .string _, .string _] >>= _)
          exact fin (.ptr ha)
        | ptrNil =>
          refine .triv (dies_left ?_)
          exact fun _ => rfl
        | _ => exact .halt
  | _ => cases p <;> cases hx <;> exact plain

theorem sr_method (hp : PathsOk P) (fuel : Nat) : ∀ {κ : K} (t : TypeId) {v v' : Value} (name : String), VR κ v v' → SR P (fun κ a b => a.1 = b.1 ∧ VR κ a.2 b.2) κ (method fuel t v name) (method fuel t v' name) := by
  induction fuel with
  | zero => intro κ t v v' name h; exact .halt
  | succ fuel ih =>
    intro κ t v v' name h
    unfold method
    refine SR.bind' (sr_typeInfo' t) ?_
    rintro κ1 ti _ hk ⟨rfl, hti⟩
    cases hm : ti.methods.find? (·.name == name) with
    | none => exact .halt
    | some m =>
      dsimp only
      have hmem : m ∈ ti.methods := Array.mem_of_find?_eq_some hm
      refine SR.bind' (sr_follow m.path.toList (fun s hs fields f h1 h2 => hp t ti m s fields f hti hmem (by simpa using hs) h1 h2) t (.val (h.mono hk))) ?_
      rintro κ2 ⟨xt, x⟩ ⟨xt', x'⟩ hk2 ⟨e, hx⟩
      simp only [] at e hx
      subst e
      dsimp only
      cases hf : m.func with
      | none =>
        dsimp only
        refine SR.bind' (sr_get xt hx) ?_
        intro κ3 u u' hk3 hu
        cases hu with
        | iface hw => exact ih _ name hw
        | nilIface => exact .triv (dies_runtimePanic _)
        | _ => exact .halt
      | some fp =>
        obtain ⟨f, pr⟩ := fp
        dsimp only
        refine SR.bind' (sr_receiverAt xt hx pr _) ?_
        intro κ3 u u' hk3 hu
        exact .pure ⟨rfl, hu⟩
theorem sr_receiverVia {κ : K} (t : TypeId) {v v' : Value} (h : VR κ v v') (path : Array FieldStep) (hp : ∀ s ∈ path, ∀ fields f, P.underlying s.struct = some (.struct fields) → fields[s.index]? = some f → P.cellsOf f.type ≠ 0) (p : Bool) :
    SR P VR κ (receiverVia t v path p) (receiverVia t v' path p) := by
  unfold receiverVia
  refine SR.bind' (sr_follow path.toList (fun s hs => hp s (by simpa using hs)) t (.val h)) ?_
  rintro κ2 ⟨xt, x⟩ ⟨xt', x'⟩ hk2 ⟨e, hx⟩
  simp only [] at e hx
  subst e
  exact sr_receiverAt xt hx p none
end
end Go.Ev
