/- The operations, one by one: over related values they are programs of one shape. Holds for every program. -/
import Derived.Test.YtnfijnioclcnmaaDoorEvRun
namespace Go.Ev
open Go

def EqR {α : Type} : K → α → α → Prop := fun _ a b => a = b
def AR (κ : K) (a b : Array Value) : Prop := VL κ a.toList b.toList

theorem AR.mono {κ κ' : K} (hk : κ.le κ') {a b : Array Value} (h : AR κ a b) : AR κ' a b := VL.mono hk h
theorem AR.size {κ : K} {a b : Array Value} (h : AR κ a b) : b.size = a.size := by simpa using VL.length h
theorem AR.push {κ : K} {a b : Array Value} (h : AR κ a b) {v v' : Value} (hv : VR κ v v') : AR κ (a.push v) (b.push v') := by
  unfold AR at *; simp only [Array.toList_push]; exact h.append (.cons hv .nil)
theorem AR.append {κ : K} {a b c d : Array Value} (h : AR κ a b) (h' : AR κ c d) : AR κ (a ++ c) (b ++ d) := by
  unfold AR at *; simp only [Array.toList_append]; exact VL.append h h'
theorem AR.get {κ : K} {a b : Array Value} (h : AR κ a b) (i : Nat) : (a[i]? = none ∧ b[i]? = none) ∨ ∃ v v', a[i]? = some v ∧ b[i]? = some v' ∧ VR κ v v' := by
  have := VL.get h i; simpa using this
theorem AR.extract {κ : K} {a b : Array Value} (h : AR κ a b) (i j : Nat) : AR κ (a.extract i j) (b.extract i j) := by
  obtain ⟨a⟩ := a; obtain ⟨b⟩ := b; exact VL.extract h i j
theorem AR.set {κ : K} {a b : Array Value} (h : AR κ a b) {v v' : Value} (hv : VR κ v v') (i : Nat) : AR κ (a.setIfInBounds i v) (b.setIfInBounds i v') := by
  unfold AR at *; simp only [Array.toList_setIfInBounds]; exact VL.set h hv i
theorem AR.of_list {κ : K} {l l' : List Value} (h : VL κ l l') : AR κ ⟨l⟩ ⟨l'⟩ := h
theorem VR.aggA {κ : K} {a b : Array Value} (h : AR κ a b) : VR κ (.agg a) (.agg b) := by
  obtain ⟨a⟩ := a; obtain ⟨b⟩ := b; exact .agg h
theorem VR.tupleA {κ : K} {a b : Array Value} (h : AR κ a b) : VR κ (.tuple a) (.tuple b) := by
  obtain ⟨a⟩ := a; obtain ⟨b⟩ := b; exact .tuple h
theorem AR.cells {κ : K} {v v' : Value} (h : VR κ v v') : AR κ v.cells v'.cells := by
  cases h <;> first
    | exact .cons (by first | exact .bool _ | exact .int _ _ | exact .float _ _ | exact .complex _ _ _ | exact .string _ | exact .ptrNil | exact .ptr (by assumption) | exact .sliceNil _ _ | exact .slice (by assumption) | exact .mapNil | exact .map (by assumption) | exact .chanNil | exact .func (by assumption) (by assumption) (by assumption) | exact .nilFunc | exact .iface (by assumption) | exact .nilIface | exact .tuple (by assumption) | exact .yield _) .nil
    | assumption

/-! ### programs that only look at the program -/

def isq {α : Type} (P : Program) : Sem α → Prop
  | .pure _ => True
  | .program k => isq P (k P)
  | .mark _ k => isq P k
  | .choose q k => q.forced = true → isq P (k 0)
  | .halt _ => True
  | _ => False
theorem isq_bind {α β : Type} {P : Program} {s : Sem α} {f : α → Sem β} (hs : isq P s) (hf : ∀ a, isq P (f a)) : isq P (s.bind f) := by
  induction s with
  | pure a => exact hf a
  | program k ih => exact ih P hs
  | mark m k ih => exact ih hs
  | choose q k ih => exact fun hq => ih 0 (hs hq)
  | halt h => trivial
  | _ => exact hs.elim
theorem isq_bind' {α β : Type} {P : Program} {s : Sem α} {f : α → Sem β} (hs : isq P s) (hf : ∀ a, isq P (f a)) : isq P (s >>= f) := isq_bind hs hf
theorem sr_isq {α : Type} {P : Program} {κ : K} {s : Sem α} (hs : isq P s) : SR P EqR κ s s := by
  induction s with
  | pure a => exact .pure rfl
  | program k ih => exact .program (ih P hs)
  | mark m k ih => exact .mark (ih hs)
  | choose q k ih => exact .choose fun hq => ih 0 (hs hq)
  | halt h => exact .halt
  | _ => exact hs.elim

section
variable {P : Program} {κ : K}
theorem q_typeInfo (t : TypeId) : isq P (typeInfo t) := by
  show isq P (match P.info? t with | some i => (pure i : Sem TypeInfo) | none => stuck "no such type")
  split <;> trivial
theorem q_underlying (t : TypeId) : isq P (underlying t) := by
  show isq P (match P.underlying t with | some i => (pure i : Sem TypeDesc) | none => stuck "no such type")
  split <;> trivial
theorem q_sizeOf (t : TypeId) : isq P (sizeOf t) := isq_bind (q_typeInfo t) fun _ => trivial
theorem q_isAgg (t : TypeId) : isq P (isAgg t) := isq_bind (q_underlying t) fun d => by cases d <;> trivial
theorem q_program : isq P program := trivial

theorem sr_underlying (t : TypeId) : SR P EqR κ (underlying t) (underlying t) := sr_isq (q_underlying t)
theorem sr_typeInfo (t : TypeId) : SR P EqR κ (typeInfo t) (typeInfo t) := sr_isq (q_typeInfo t)
theorem sr_sizeOf (t : TypeId) : SR P EqR κ (sizeOf t) (sizeOf t) := sr_isq (q_sizeOf t)
theorem sr_isAgg (t : TypeId) : SR P EqR κ (isAgg t) (isAgg t) := sr_isq (q_isAgg t)

/-- Nothing that a zero value holds is an address. -/
def ZerosFlat (P : Program) : Prop := ∀ t i z, P.info? t = some i → i.zero = some z → flatV z = true

theorem sr_zeroValue (hz : ZerosFlat P) (t : TypeId) : SR P VR κ (zeroValue t) (zeroValue t) := by
  show SR P VR κ ((typeInfo t).bind _) ((typeInfo t).bind _)
  cases hi : P.info? t with
  | none =>
    refine .triv fun h => ?_
    rw [arun_bind]
    show (arun P (match P.info? t with | some i => (pure i : Sem TypeInfo) | none => stuck "no such type") h).bind _ = none
    rw [hi]; rfl
  | some i =>
    refine .program ?_
    show SR P VR κ ((match P.info? t with | some i => (pure i : Sem TypeInfo) | none => stuck "no such type").bind _) ((match P.info? t with | some i => (pure i : Sem TypeInfo) | none => stuck "no such type").bind _)
    rw [hi]
    show SR P VR κ (match i.zero with | some v => (pure v : Sem Value) | none => _) (match i.zero with | some v => (pure v : Sem Value) | none => _)
    cases hzz : i.zero with
    | none => exact .halt
    | some z => exact .pure (VR.flat z (hz t i z hi hzz))

/-! ### memory -/

theorem AddrR.add {a a' : Addr} (h : AddrR κ a a') (n : Nat) : AddrR κ (a.add n) (a'.add n) := by
  obtain ⟨h1, b, h2, rfl⟩ := h
  unfold Addr.add
  split
  · exact ⟨h1, b, h2, rfl⟩
  · exact ⟨rfl, b, h2, by simp [Nat.add_assoc]⟩

theorem sr_loadCellsFrom {a a' : Addr} (h : AddrR κ a a') (n : Nat) : ∀ (i : Nat) {acc acc' : Array Value}, AR κ acc acc' →
    SR P AR κ (loadCellsFrom a i n acc) (loadCellsFrom a' i n acc') := by
  induction n with
  | zero => intro i acc acc' hacc; exact .pure hacc
  | succ n ih => intro i acc acc' hacc; exact .load (h.add i) fun v v' hv => ih (i + 1) (hacc.push hv)
theorem sr_loadCells {a a' : Addr} (h : AddrR κ a a') (n : Nat) : SR P AR κ (loadCells a n) (loadCells a' n) := sr_loadCellsFrom h n 0 .nil
theorem sr_storeCells {a a' : Addr} (h : AddrR κ a a') : ∀ {l l' : List Value} (i : Nat), VL κ l l' → SR P EqR κ (storeCells a l i) (storeCells a' l' i)
  | _, _, _, .nil => .pure rfl
  | _, _, i, .cons hv hl => .store (h.add i) hv (sr_storeCells h (i + 1) hl)
theorem sr_loadVar {a a' : Addr} (t : TypeId) (h : AddrR κ a a') : SR P VR κ (loadVar t a) (loadVar t a') := by
  unfold loadVar
  refine SR.bind' (sr_isAgg t) ?_
  rintro κ1 c _ hk rfl
  cases c with
  | false => exact .load (h.mono hk) fun v v' hv => .pure hv
  | true =>
    refine SR.bind' (sr_sizeOf t) ?_
    rintro κ2 n _ hk2 rfl
    refine SR.bind' (sr_loadCells ((h.mono hk).mono hk2) n) ?_
    intro κ3 cs cs' hk3 hcs
    exact .pure (VR.aggA hcs)
theorem sr_storeVar {a a' : Addr} (t : TypeId) (h : AddrR κ a a') {v v' : Value} (hv : VR κ v v') : SR P EqR κ (storeVar t a v) (storeVar t a' v') := by
  unfold storeVar
  refine SR.bind' (sr_sizeOf t) ?_
  rintro κ1 n _ hk rfl
  have hc := AR.cells (VR.mono hk hv)
  rw [hc.size]
  by_cases hn : v.cells.size ≠ n
  · simp only [hn, ne_eq, not_false_eq_true, if_true]
    exact .halt
  · simp only [hn, if_false]
    exact sr_storeCells (h.mono hk) 0 hc
theorem sr_newRow (e : TypeId) {cs cs' : Array Value} (h : AR κ cs cs') : SR P AddrR κ (newRow e cs) (newRow e cs') := by
  obtain ⟨cs⟩ := cs; obtain ⟨cs'⟩ := cs'
  exact .new (.cells e h) fun κ' r b hle hb hsh => .pure ⟨rfl, b, hb, by simp [hsh]⟩
theorem sr_newVar (e : TypeId) {v v' : Value} (h : VR κ v v') : SR P AddrR κ (newVar e v) (newVar e v') := sr_newRow e (AR.cells h)

/-! ### dying -/

theorem dies_left {α β : Type} {s : Sem α} {f : α → Sem β} (h : ∀ h, arun P s h = none) : ∀ h, arun P (s >>= f) h = none := fun x => by
  show arun P (s.bind f) x = none
  rw [arun_bind, h]; rfl
theorem dies_right {α β : Type} {s : Sem α} {f : α → Sem β} (h : ∀ a h, arun P (f a) h = none) : ∀ h, arun P (s >>= f) h = none := fun x => by
  show arun P (s.bind f) x = none
  rw [arun_bind]
  cases arun P s x with
  | none => rfl
  | some y => exact h y.1 y.2
theorem dies_runtimePanic {α : Type} (e : RuntimeError) : ∀ h, arun P (runtimePanic e : Sem α) h = none := by
  unfold runtimePanic
  refine dies_right fun p => ?_
  cases e with
  | typeAssertion i c a m => exact dies_right fun _ => dies_right fun _ => fun _ => rfl
  | panicNil => exact dies_right fun _ => dies_right fun _ => fun _ => rfl
  | _ => exact fun _ => rfl
theorem dies_boundsPanic {α : Type} (k : IntKind) (x y : Int) (c : BoundsCode) : ∀ h, arun P (boundsPanic k x y c : Sem α) h = none := by
  unfold boundsPanic
  dsimp only
  split
  · exact dies_right fun _ => dies_runtimePanic _
  · exact dies_right fun _ => dies_runtimePanic _

theorem sr_asBool {v v' : Value} (h : VR κ v v') : SR P EqR κ (asBool v) (asBool v') := by
  cases h <;> first | exact .pure rfl | exact .halt
theorem sr_asIntOf {v v' : Value} (h : VR κ v v') : SR P EqR κ (asIntOf v) (asIntOf v') := by
  cases h <;> first | exact .pure rfl | exact .halt
theorem sr_asInt {v v' : Value} (h : VR κ v v') : SR P EqR κ (asInt v) (asInt v') :=
  SR.bind' (sr_asIntOf h) fun _ a b _ e => by cases e; exact .pure rfl
theorem sr_asAddr {v v' : Value} (h : VR κ v v') : SR P AddrR κ (asAddr v) (asAddr v') := by
  cases h with
  | ptr h => exact .pure h
  | ptrNil => exact .triv (show ∀ h, arun P (runtimePanic .nilDeref : Sem Addr) h = none from dies_runtimePanic _)
  | _ => exact .halt
theorem sr_asAgg {v v' : Value} (h : VR κ v v') : SR P AR κ (asAgg v) (asAgg v') := by
  cases h <;> first | exact .pure (by assumption) | exact .halt
theorem sr_sureAddr {v v' : Value} (h : VR κ v v') : SR P AddrR κ (Instr.sureAddr v) (Instr.sureAddr v') := by
  cases h <;> first | exact .pure (by assumption) | exact .halt
theorem sr_part (t : TypeId) {cs cs' : Array Value} (h : AR κ cs cs') (off : Nat) : SR P VR κ (part t cs off) (part t cs' off) := by
  unfold part
  refine SR.bind' (sr_isAgg t) ?_
  rintro κ1 c _ hk rfl
  cases c with
  | true =>
    refine SR.bind' (sr_sizeOf t) ?_
    rintro κ2 n _ hk2 rfl
    exact .pure (VR.aggA ((h.mono hk).mono hk2 |>.extract _ _))
  | false =>
    rcases (h.mono hk).get off with ⟨h1, h2⟩ | ⟨v, v', h1, h2, h3⟩
    · simp only [h1, h2]; exact .halt
    · simp only [h1, h2]; exact .pure h3

/-! ### the operations -/

theorem sr_loadAt (t : TypeId) {v v' : Value} (h : VR κ v v') : SR P VR κ (Instr.loadAt t v) (Instr.loadAt t v') :=
  SR.bind' (sr_sureAddr h) fun _ _ _ _ ha => sr_loadVar t ha
theorem sr_storeAt (t : TypeId) {v v' x x' : Value} (h : VR κ v v') (hx : VR κ x x') : SR P EqR κ (Instr.storeAt t v x) (Instr.storeAt t v' x') :=
  SR.bind' (sr_sureAddr h) fun _ _ _ hk ha => sr_storeVar t ha (hx.mono hk)
theorem sr_alloc (hz : ZerosFlat P) (e : TypeId) : SR P VR κ (Instr.alloc e true (.tuple #[])) (Instr.alloc e true (.tuple #[])) := by
  refine SR.bind' (sr_zeroValue hz e) ?_
  intro κ1 z z' hk h
  refine SR.bind' (sr_newVar e h) ?_
  intro κ2 a a' hk2 ha
  exact .pure (.ptr ha)
theorem sr_box (e : TypeId) {v v' : Value} (h : VR κ v v') : SR P VR κ (Instr.box e v) (Instr.box e v') :=
  SR.bind' (sr_newVar e h) fun _ _ _ _ ha => .pure (.ptr ha)
theorem sr_field (t : TypeId) {v v' : Value} (h : VR κ v v') (f : Nat) : SR P VR κ (Instr.field t v f) (Instr.field t v' f) := by
  refine SR.bind' (sr_underlying t) ?_
  rintro κ1 d _ hk rfl
  cases d with
  | struct fields =>
    simp only []
    cases fields[f]? with
    | none => exact .halt
    | some fd => exact SR.bind' (sr_asAgg (h.mono hk)) fun _ _ _ _ hc => sr_part _ hc _
  | _ => exact .halt
theorem sr_makeInterface (t : TypeId) {v v' : Value} (h : VR κ v v') : SR P VR κ (Instr.makeInterface t v) (Instr.makeInterface t v') := by
  refine SR.bind' (sr_underlying t) ?_
  rintro κ1 d _ hk rfl
  cases d <;> first | exact .halt | exact .pure (.iface (h.mono hk))
theorem sr_extract {v v' : Value} (h : VR κ v v') (i : Nat) : SR P VR κ (Instr.extract v i) (Instr.extract v' i) := by
  cases h with
  | tuple hl =>
    rename_i l l'
    show SR P VR κ (match (⟨l⟩ : Array Value)[i]? with | some v => _ | none => _) (match (⟨l'⟩ : Array Value)[i]? with | some v => _ | none => _)
    rcases AR.get (AR.of_list hl) i with ⟨h1, h2⟩ | ⟨u, u', h1, h2, h3⟩
    · rw [h1, h2]; exact .halt
    · rw [h1, h2]; exact .pure h3
  | _ => exact .halt
theorem sr_index (t : TypeId) {v v' x x' : Value} (h : VR κ v v') (hx : VR κ x x') : SR P VR κ (Instr.index t v x) (Instr.index t v' x') := by
  refine SR.bind' (sr_asIntOf hx) ?_
  rintro κ1 ⟨k, i⟩ _ hk rfl
  refine SR.bind' (sr_underlying t) ?_
  rintro κ2 d _ hk2 rfl
  have h2 := (h.mono hk).mono hk2
  cases d with
  | array len e =>
    cases h2 with
    | agg hl =>
      simp only []
      by_cases hi : 0 ≤ i ∧ i < len
      · simp only [hi, and_self, if_true]
        refine SR.bind' (sr_sizeOf e) ?_
        rintro κ3 n _ hk3 rfl
        exact sr_part e (AR.mono hk3 (AR.of_list hl)) _
      · simp only [hi, if_false]; exact .triv (dies_boundsPanic _ _ _ _)
    | _ => exact .halt
  | string =>
    cases h2 with
    | string s =>
      simp only []
      split
      · exact .pure (.int _ _)
      · exact .triv (dies_boundsPanic _ _ _ _)
    | _ => exact .halt
  | _ => cases h2 <;> exact .halt

/-- What the evaluator asks of a block before it cuts a slice of it: its elements are of that size, or its room is known. -/
def SizeOk (κ : K) (id size : Nat) : Prop := ∀ b, κ id = some b → b.ex = true ∨ b.sz = size
theorem SizeOk.mono {κ κ' : K} (hk : κ.le κ') {id size : Nat} (hd : κ id ≠ none) (h : SizeOk κ id size) : SizeOk κ' id size := by
  intro b hb
  cases hx : κ id with
  | none => exact absurd hx hd
  | some c =>
    have := hk id c hx
    rw [this] at hb
    cases hb
    exact h _ hx

theorem addr_add_off (a : Addr) (n : Nat) (hs : a.spot = none) : a.add n = ⟨a.block, a.off + n, none⟩ := by
  unfold Addr.add
  split
  · rename_i h; subst h; cases a; simp only [] at hs; subst hs; rfl
  · rfl

theorem SliceR.addr {a a' : Addr} {n c c' : Nat} (h : SliceR κ a n c a' c') (hn : n ≠ 0) : AddrR κ a a' := by
  obtain ⟨h1, h2, b, hb, hblk, h3⟩ := h
  refine ⟨h1, b, hb, ?_⟩
  have : a'.off = b.sh + a.off := by
    rcases h3 with ⟨e, _⟩ | ⟨_, _, _, _, e | ⟨e, _⟩⟩
    · exact e
    · exact e
    · exact absurd e hn
  cases a'
  simp only [] at *
  subst h2 hblk this
  rfl

theorem sr_indexAt (t : TypeId) {v v' x x' : Value} (h : VR κ v v') (hx : VR κ x x') : SR P VR κ (Instr.indexAt t v x) (Instr.indexAt t v' x') := by
  refine SR.bind' (sr_asIntOf hx) ?_
  rintro κ1 ⟨k, i⟩ _ hk rfl
  refine SR.bind' (sr_underlying t) ?_
  rintro κ2 d _ hk2 rfl
  have h2 := (h.mono hk).mono hk2
  have fin : ∀ {κ3 : K} (a a' : Addr) (len : Nat) (e : TypeId) (ty : Prop) [Decidable ty], (0 ≤ i ∧ i < (len : Int) → AddrR κ3 a a') →
      SR P VR κ3 (if 0 ≤ i ∧ i < (len : Int) then (do pure (.pointer (some (a.add (i.toNat * (← sizeOf e))))) : Sem Value) else if ty then unsupported (.noEntry "op/indexAddr.an index out of range at an array of length 0 or 1 (ledger 616)") else boundsPanic k i len .index)
        (if 0 ≤ i ∧ i < (len : Int) then (do pure (.pointer (some (a'.add (i.toNat * (← sizeOf e))))) : Sem Value) else if ty then unsupported (.noEntry "op/indexAddr.an index out of range at an array of length 0 or 1 (ledger 616)") else boundsPanic k i len .index) := by
    intro κ3 a a' len e ty _ ha
    by_cases hi : 0 ≤ i ∧ i < (len : Int)
    · rw [if_pos hi, if_pos hi]
      refine SR.bind' (sr_sizeOf e) ?_
      rintro κ4 n _ hk4 rfl
      exact .pure (.ptr (((ha hi).mono hk4).add _))
    · rw [if_neg hi, if_neg hi]
      by_cases ht : ty
      · rw [if_pos ht]; exact .halt
      · rw [if_neg ht]; exact .triv (dies_boundsPanic _ _ _ _)
  cases d with
  | array len e =>
    dsimp only
    refine SR.bind' (sr_sureAddr h2) ?_
    intro κ3 a a' hk3 ha
    simp only [pure_bind]
    refine SR.bind' (sr_underlying t) ?_
    rintro κ4 d _ hk4 rfl
    exact fin a a' len e _ (fun _ => ha.mono hk4)
  | slice e =>
    cases h2 with
    | sliceNil n c =>
      simp only [pure_bind]
      refine SR.bind' (sr_underlying t) ?_
      rintro κ4 d _ hk4 rfl
      exact .triv (dies_boundsPanic _ _ _ _)
    | slice hs =>
      simp only [pure_bind]
      refine SR.bind' (sr_underlying t) ?_
      rintro κ4 d _ hk4 rfl
      exact fin _ _ _ e _ (fun hi => (hs.addr (by omega)).mono hk4)
    | _ => exact .halt
  | _ => exact .halt

/-! ### slices -/

theorem sr_sliceBound {x x' : Value} (hx : VR κ x x') (y y' : Nat) (hy : y ≤ y') (code : BoundsCode) :
    SR P (fun _ (a b : Nat) => a = b ∧ a ≤ y) κ (Instr.sliceBound x y code) (Instr.sliceBound x' y' code) := by
  refine SR.bind' (sr_asIntOf hx) ?_
  rintro κ1 ⟨k, i⟩ _ hk rfl
  dsimp only
  by_cases hi : 0 ≤ i ∧ i ≤ (y : Int)
  · rw [if_pos hi, if_pos (by omega)]; exact .pure ⟨rfl, by omega⟩
  · rw [if_neg hi]; exact .triv (dies_boundsPanic _ _ _ _)
inductive OR (κ : K) : Option Value → Option Value → Prop
  | none : OR κ none none
  | some {v v' : Value} : VR κ v v' → OR κ (some v) (some v')
theorem OR.mono {κ κ' : K} (hk : κ.le κ') {a b : Option Value} (h : OR κ a b) : OR κ' a b := by
  cases h with
  | none => exact .none
  | some h => exact .some (h.mono hk)
def lowPart (lo mx : Option Value) (h m : Nat) : Sem (Nat × Nat × Nat) := do
  let l ← match lo with
    | some v => Instr.sliceBound v h (if mx.isSome then .slice3C else .sliceB)
    | none => pure 0
  pure (l, h, m)
/-- The three bounds: low, high, and the third, which is the room where none is written. -/
theorem sr_sliceBounds (isSlice : Bool) (len cap cap' : Nat) (hc : cap ≤ cap') {lo lo' hi hi' mx mx' : Option Value} (h1 : OR κ lo lo') (h2 : OR κ hi hi') (h3 : OR κ mx mx') :
    SR P (fun _ (a b : Nat × Nat × Nat) => a.1 = b.1 ∧ a.2.1 = b.2.1 ∧ ((a.2.2 = b.2.2 ∧ a.2.2 ≤ cap) ∨ (a.2.2 = cap ∧ b.2.2 = cap')) ∧ (len ≤ cap → a.1 ≤ a.2.1 ∧ a.2.1 ≤ a.2.2)) κ
      (Instr.sliceBounds isSlice len cap lo hi mx) (Instr.sliceBounds isSlice len cap' lo' hi' mx') := by
  have low : ∀ {κ : K} {lo lo' : Option Value} (h m m' : Nat) (mx : Option Value) (mx' : Option Value), OR κ lo lo' → OR κ mx mx' → ((m = m' ∧ m ≤ cap) ∨ (m = cap ∧ m' = cap')) → (len ≤ cap → h ≤ m) →
      SR P (fun _ (a b : Nat × Nat × Nat) => a.1 = b.1 ∧ a.2.1 = b.2.1 ∧ ((a.2.2 = b.2.2 ∧ a.2.2 ≤ cap) ∨ (a.2.2 = cap ∧ b.2.2 = cap')) ∧ (len ≤ cap → a.1 ≤ a.2.1 ∧ a.2.1 ≤ a.2.2)) κ
        (lowPart lo mx h m) (lowPart lo' mx' h m') := by
    intro κ lo lo' h m m' mx mx' hlo hmx hm hh
    unfold lowPart
    have hq : mx'.isSome = mx.isSome := by cases hmx <;> rfl
    rw [hq]
    cases hlo with
    | none => exact .pure ⟨rfl, rfl, hm, fun e => ⟨Nat.zero_le _, hh e⟩⟩
    | some hv =>
      refine SR.bind' (sr_sliceBound hv h h (Nat.le_refl _) _) ?_
      rintro κ1 l _ hk ⟨rfl, hle⟩
      exact .pure ⟨rfl, rfl, hm, fun e => ⟨hle, hh e⟩⟩
  unfold Instr.sliceBounds
  cases h3 with
  | none =>
    cases h2 with
    | none => exact low len cap cap' none none h1 .none (.inr ⟨rfl, rfl⟩) id
    | some hv =>
      refine SR.bind' (s := pure cap) (s' := pure cap') (R := fun _ (a b : Nat) => a = cap ∧ b = cap') (.pure ⟨rfl, rfl⟩) ?_
      rintro κ1 x y hk ⟨hx1, hx2⟩
      rw [hx1, hx2]
      refine SR.bind' (sr_sliceBound (hv.mono hk) cap cap' hc _) ?_
      rintro κ2 x _ hk2 ⟨rfl, hx⟩
      exact low x cap cap' none none ((h1.mono hk).mono hk2) .none (.inr ⟨rfl, rfl⟩) (fun _ => hx)
  | some hm =>
    refine SR.bind' (sr_sliceBound hm cap cap' hc _) ?_
    rintro κ1 m _ hk ⟨rfl, hmc⟩
    cases h2 with
    | none => exact .halt
    | some hv =>
      refine SR.bind' (sr_sliceBound (hv.mono hk) m m (Nat.le_refl _) _) ?_
      rintro κ2 x _ hk2 ⟨rfl, hx⟩
      exact low x m m _ _ ((h1.mono hk).mono hk2) (.some ((hm.mono hk).mono hk2)) (.inl ⟨rfl, hmc⟩) (fun _ => hx)


theorem slice_res {a a' : Addr} {n c c' l h m m' size : Nat} (hs : SliceR κ a n c a' c') (hn : n ≤ c) (hz : SizeOk κ a.block size) (hlh : l ≤ h) (hhm : h ≤ m)
    (hm : (m = m' ∧ m ≤ c) ∨ (m = c ∧ m' = c')) :
    VR κ (.slice (if m = l then some a else (some a).map (·.add (l * size))) (h - l) (m - l)) (.slice (if m' = l then some a' else (some a').map (·.add (l * size))) (h - l) (m' - l)) := by
  obtain ⟨h1, h2, b, hb, hblk, h3⟩ := hs
  have e1 : (if m = l then some a else (some a).map (·.add (l * size))) = some (if m = l then a else a.add (l * size)) := by split <;> rfl
  have e2 : (if m' = l then some a' else (some a').map (·.add (l * size))) = some (if m' = l then a' else a'.add (l * size)) := by split <;> rfl
  rw [e1, e2]
  refine .slice ?_
  have blkA : (if m = l then a else a.add (l * size)).block = a.block := by split; rfl; rw [addr_add_off a _ h1]
  have blkA' : (if m' = l then a' else a'.add (l * size)).block = a'.block := by split; rfl; rw [addr_add_off a' _ h2]
  have spA : (if m = l then a else a.add (l * size)).spot = none := by split; exact h1; rw [addr_add_off a _ h1]
  have spA' : (if m' = l then a' else a'.add (l * size)).spot = none := by split; exact h2; rw [addr_add_off a' _ h2]
  have offA : (if m = l then a else a.add (l * size)).off = if m = l then a.off else a.off + l * size := by split; rfl; rw [addr_add_off a _ h1]
  have offA' : (if m' = l then a' else a'.add (l * size)).off = if m' = l then a'.off else a'.off + l * size := by split; rfl; rw [addr_add_off a' _ h2]
  refine ⟨spA, spA', b, by rw [blkA]; exact hb, by rw [blkA']; exact hblk, ?_⟩
  rw [offA, offA']
  rcases h3 with ⟨ho, hcc⟩ | ⟨hex, hfit, hsh, hle, ho⟩
  · subst hcc
    have : m = m' := by omega
    subst this
    left
    refine ⟨?_, rfl⟩
    split <;> omega
  · have hsz : b.sz = size := by
      rcases hz b hb with e | e
      · rw [hex] at e; cases e
      · exact e
    rw [← hsz]
    have key : ∀ x : Nat, l ≤ x → x ≤ c' → a'.off + l * b.sz + (x - l) * b.sz ≤ b.tot := by
      intro x hx1 hx2
      rw [Nat.add_assoc, ← Nat.add_mul, Nat.add_sub_cancel' hx1]
      have := Nat.mul_le_mul_right b.sz hx2
      omega
    rcases hm with ⟨rfl, hmc⟩ | ⟨rfl, rfl⟩
    · by_cases hml : m = l
      · rw [if_pos hml, if_pos hml]
        rcases ho with ho | ⟨hn0, hc0⟩
        · left; exact ⟨ho, rfl⟩
        · right; exact ⟨hex, by rw [hml]; simp; omega, hsh, Nat.le_refl _, .inr ⟨by omega, by omega⟩⟩
      · rw [if_neg hml, if_neg hml]
        rcases ho with ho | ⟨hn0, hc0⟩
        · left; exact ⟨by omega, rfl⟩
        · omega
    · right
      by_cases hml : m = l
      · rw [if_pos hml]
        refine ⟨hex, ?_, ?_, by omega, ?_⟩
        · by_cases hml' : m' = l
          · rw [if_pos hml', hml']; simp; omega
          · rw [if_neg hml']; exact key m' (by omega) (Nat.le_refl _)
        · split <;> omega
        · right; exact ⟨by omega, by omega⟩
      · rw [if_neg hml]
        have hml' : m' ≠ l := by omega
        rw [if_neg hml']
        refine ⟨hex, key m' (by omega) (Nat.le_refl _), by omega, by omega, ?_⟩
        rcases ho with ho | ⟨hn0, hc0⟩
        · left; omega
        · omega

theorem slice_arr {a a' : Addr} {l h m size : Nat} (ha : AddrR κ a a') :
    VR κ (.slice (some (if m = l then a else a.add (l * size))) (h - l) (m - l)) (.slice (some (if m = l then a' else a'.add (l * size))) (h - l) (m - l)) := by
  refine .slice ?_
  split
  · obtain ⟨h1, b, hb, rfl⟩ := ha
    exact ⟨h1, rfl, b, hb, rfl, .inl ⟨rfl, rfl⟩⟩
  · obtain ⟨h1, b, hb, e⟩ := ha.add (l * size)
    rw [e]
    exact ⟨h1, rfl, b, hb, rfl, .inl ⟨rfl, rfl⟩⟩
end
end Go.Ev
