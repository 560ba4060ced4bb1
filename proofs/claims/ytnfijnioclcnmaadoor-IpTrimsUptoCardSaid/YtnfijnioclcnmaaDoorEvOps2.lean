/- More operations, one by one. Holds for every program. -/
import Derived.Test.YtnfijnioclcnmaaDoorEvOps1
namespace Go.Ev
open Go
section
variable {P : Program} {κ : K}

theorem sr_sizeOf' (t : TypeId) : SR P (fun _ (a b : Nat) => a = b ∧ a = P.cellsOf t) κ (sizeOf t) (sizeOf t) := by
  show SR P _ κ ((typeInfo t).bind _) ((typeInfo t).bind _)
  refine .program ?_
  show SR P _ κ ((match P.info? t with | some i => (pure i : Sem TypeInfo) | none => stuck "no such type").bind _) ((match P.info? t with | some i => (pure i : Sem TypeInfo) | none => stuck "no such type").bind _)
  cases hi : P.info? t with
  | none => exact .halt
  | some i => exact .pure ⟨rfl, by simp [Program.cellsOf, hi]⟩
theorem sr_underlying' (t : TypeId) : SR P (fun _ (a b : TypeDesc) => a = b ∧ P.underlying t = some a) κ (underlying t) (underlying t) := by
  show SR P _ κ ((program).bind _) ((program).bind _)
  refine .program ?_
  show SR P _ κ (match P.underlying t with | some i => (pure i : Sem TypeDesc) | none => stuck "no such type") (match P.underlying t with | some i => (pure i : Sem TypeDesc) | none => stuck "no such type")
  cases hi : P.underlying t with
  | none => exact .halt
  | some i => exact .pure ⟨rfl, rfl⟩
theorem sr_typeInfo' (t : TypeId) : SR P (fun _ (a b : TypeInfo) => a = b ∧ P.info? t = some a) κ (typeInfo t) (typeInfo t) := by
  show SR P _ κ ((program).bind _) ((program).bind _)
  refine .program ?_
  show SR P _ κ (match P.info? t with | some i => (pure i : Sem TypeInfo) | none => stuck "no such type") (match P.info? t with | some i => (pure i : Sem TypeInfo) | none => stuck "no such type")
  cases hi : P.info? t with
  | none => exact .halt
  | some i => exact .pure ⟨rfl, rfl⟩

def SliceOk (P : Program) (κ : K) (t : TypeId) (v : Value) : Prop :=
  match v with
  | .slice (some a) n c => n ≤ c ∧ ∀ e, P.underlying t = some (.slice e) → SizeOk κ a.block (P.cellsOf e)
  | .slice none n c => n ≤ c
  | _ => True

theorem sr_slice (t : TypeId) {v v' : Value} (h : VR κ v v') (hok : SliceOk P κ t v) {lo lo' hi hi' mx mx' : Option Value} (h1 : OR κ lo lo') (h2 : OR κ hi hi') (h3 : OR κ mx mx')
    (hnp : ∀ d, P.underlying t = some d → (match d with | .pointer _ => False | _ => True)) :
    SR P VR κ (Instr.slice t v lo hi mx) (Instr.slice t v' lo' hi' mx') := by
  unfold Instr.slice
  refine SR.bind' (sr_underlying' t) ?_
  rintro κ1 d _ hk ⟨rfl, hd⟩
  have hv := h.mono hk
  cases d with
  | string =>
    cases hv with
    | string s =>
      dsimp only
      cases h3 with
      | some hm => exact .halt
      | none =>
        simp only [Option.isSome_none, Bool.false_eq_true, if_false]
        refine SR.bind' (sr_sliceBounds false s.size s.size s.size (Nat.le_refl _) (h1.mono hk) (h2.mono hk) .none) ?_
        rintro κ2 ⟨l, h, m⟩ ⟨l', h', m'⟩ hk2 ⟨e1, e2, _⟩
        simp only [] at e1 e2
        subst e1 e2
        exact .pure (.string _)
    | _ => exact .halt
  | slice e =>
    cases hv with
    | sliceNil n c =>
      dsimp only
      cases h with
      | sliceNil _ _ =>
        refine SR.bind' (sr_sliceBounds true n c c (Nat.le_refl _) (h1.mono hk) (h2.mono hk) (h3.mono hk)) ?_
        rintro κ2 ⟨l, h, m⟩ ⟨l', h', m'⟩ hk2 ⟨e1, e2, e3, e4⟩
        simp only [] at e1 e2 e3
        subst e1 e2
        obtain rfl : m = m' := by omega
        refine SR.bind' (sr_sizeOf e) ?_
        rintro κ3 sz _ hk3 rfl
        refine .pure ?_
        simp only [Option.map_none, ite_self]
        exact .sliceNil _ _
    | slice hs =>
      dsimp only
      cases h with
      | slice hs0 =>
        rename_i a a' n c c'
        obtain ⟨hnc, hsz⟩ := hok
        have hcc : c ≤ c' := by
          obtain ⟨_, _, b, _, _, h4⟩ := hs0
          rcases h4 with ⟨_, e⟩ | ⟨_, _, _, e, _⟩ <;> omega
        refine SR.bind' (sr_sliceBounds true n c c' hcc (h1.mono hk) (h2.mono hk) (h3.mono hk)) ?_
        rintro κ2 ⟨l, h, m⟩ ⟨l', h', m'⟩ hk2 ⟨e1, e2, e3, e4⟩
        simp only [] at e1 e2 e3 e4
        subst e1 e2
        refine SR.bind' (sr_sizeOf' e) ?_
        rintro κ3 sz _ hk3 ⟨rfl, hsize⟩
        refine .pure ?_
        have hd0 : κ a.block ≠ none := by
          obtain ⟨_, _, b, hb, _⟩ := hs0
          rw [hb]; exact fun e => by cases e
        have hle : κ.le κ3 := K.le_trans (K.le_trans hk hk2) hk3
        refine slice_res (hs0.mono hle) hnc (SizeOk.mono hle hd0 ?_) (e4 hnc).1 (e4 hnc).2 ?_
        · rw [hsize]; exact hsz e hd
        · rcases e3 with ⟨e, e'⟩ | ⟨e, e'⟩
          · exact .inl ⟨e, e'⟩
          · exact .inr ⟨e, e'⟩
    | _ => exact .halt
  | pointer e => exact (hnp _ hd).elim
  | _ => exact .halt

theorem sr_sliceAt (t : TypeId) {v v' : Value} (h : VR κ v v') (hok : SliceOk P κ t v) {lo lo' hi hi' mx mx' : Option Value} (h1 : OR κ lo lo') (h2 : OR κ hi hi') (h3 : OR κ mx mx')
    (hnp : ∀ d, P.underlying t = some d → (match d with | .pointer _ => False | _ => True)) :
    SR P VR κ (Instr.sliceAt t v lo hi mx) (Instr.sliceAt t v' lo' hi' mx') := by
  unfold Instr.sliceAt
  refine SR.bind' (R := fun κ' a b => κ' = κ ∧ a = b ∧ P.underlying t = some a) ?_ ?_
  · show SR P _ κ ((program).bind _) ((program).bind _)
    refine .program ?_
    show SR P _ κ (match P.underlying t with | some i => (pure i : Sem TypeDesc) | none => stuck "no such type") (match P.underlying t with | some i => (pure i : Sem TypeDesc) | none => stuck "no such type")
    cases hi : P.underlying t with
    | none => exact .halt
    | some i => exact .pure ⟨rfl, rfl, rfl⟩
  rintro κ1 d _ hk ⟨rfl, rfl, hd⟩
  cases d with
  | array n e =>
    dsimp only
    refine SR.bind' (sr_sureAddr h) ?_
    intro κ2 a a' hk2 ha
    refine SR.bind' (sr_sliceBounds false n n n (Nat.le_refl _) (h1.mono hk2) (h2.mono hk2) (h3.mono hk2)) ?_
    rintro κ3 ⟨l, h, m⟩ ⟨l', h', m'⟩ hk3 ⟨e1, e2, e3, e4⟩
    simp only [] at e1 e2 e3 e4
    subst e1 e2
    obtain rfl : m = m' := by omega
    refine SR.bind' (sr_sizeOf e) ?_
    rintro κ4 sz _ hk4 rfl
    exact .pure (slice_arr ((ha.mono hk3).mono hk4))
  | _ => exact sr_slice t h hok h1 h2 h3 hnp

theorem sr_fieldAt (s : TypeId) {v v' : Value} (h : VR κ v v') (f : Nat) (hok : ∀ fields fd, P.underlying s = some (.struct fields) → fields[f]? = some fd → P.cellsOf fd.type ≠ 0) :
    SR P VR κ (Instr.fieldAt s v f) (Instr.fieldAt s v' f) := by
  unfold Instr.fieldAt
  refine SR.bind' (sr_underlying' s) ?_
  rintro κ1 d _ hk ⟨rfl, hd⟩
  cases d with
  | struct fields =>
    dsimp only
    cases hf : fields[f]? with
    | none => exact .halt
    | some fd =>
      dsimp only
      refine SR.bind' (sr_sureAddr (h.mono hk)) ?_
      intro κ2 a a' hk2 ha
      unfold fieldPlace
      simp only [bind_assoc]
      refine SR.bind' (sr_sizeOf' fd.type) ?_
      rintro κ3 sz _ hk3 ⟨rfl, hsz⟩
      have := hok fields fd hd hf
      rw [if_neg (by omega), if_neg (by omega)]
      exact .pure (.ptr ((ha.mono hk3).add _))
  | _ => exact .halt

theorem sr_makeMap (t : TypeId) {r r' : Option Value} (h : OR κ r r') : SR P VR κ (Instr.makeMap t r) (Instr.makeMap t r') := by
  have fin : ∀ κ, SR P VR κ (do pure (.map (some (← newObj (.map #[] 0)))) : Sem Value) (do pure (.map (some (← newObj (.map #[] 0))))) := fun κ =>
    .new (.obj (.map 0 .nil)) fun κ' r b hle hb hsh => .pure (.map hb)
  unfold Instr.makeMap
  cases h with
  | none => exact fin κ
  | some hv =>
    dsimp only
    refine SR.bind' (sr_underlying t) ?_
    rintro κ1 d _ hk rfl
    cases d with
    | map a b =>
      dsimp only
      refine SR.bind' (sr_asInt (hv.mono hk)) ?_
      rintro κ2 _ _ hk2 rfl
      exact fin κ2
    | _ => exact .halt

theorem sr_makeFunc {fn : Fn} (hfn : ∀ l, fn ≠ .yield l) {a a' b b' : Array Value} (h : AR κ a a') (h' : AR κ b b') : SR P VR κ (Instr.makeFunc fn a b) (Instr.makeFunc fn a' b') := by
  obtain ⟨a⟩ := a; obtain ⟨a'⟩ := a'; obtain ⟨b⟩ := b; obtain ⟨b'⟩ := b'
  exact .pure (.func hfn h h')

theorem sr_askRoom (n : Nat) : SR P EqR κ (askRoom n) (askRoom n) := by
  unfold askRoom
  split
  · exact .mark (.pure rfl)
  · exact .pure rfl

theorem AR.refl_flat {κ : K} {a : Array Value} (h : flatL a.toList = true) : AR κ a a := VL.flat _ h
theorem flatL_of {l : List Value} (h : ∀ v ∈ l, flatV v = true) : flatL l = true := by
  induction l with
  | nil => rfl
  | cons x l ih => simp only [flatL, Bool.and_eq_true]; exact ⟨h x (by simp), ih fun v hv => h v (by simp [hv])⟩
theorem AR.rep {κ : K} {z z' : Array Value} (h : AR κ z z') (n : Nat) (hz : z.size ≠ 0 ∨ n = 0) :
    AR κ ((Array.range n).map (z[· % z.size]!)) ((Array.range n).map (z'[· % z'.size]!)) := by
  refine VL.of_get (by simp) fun i v v' e e' => ?_
  simp only [Array.getElem?_toList, Array.getElem?_map, Array.getElem?_range] at e e'
  rw [h.size] at e'
  by_cases hi : i < n
  · simp only [hi, if_true, Option.map_some, Option.some.injEq] at e e'
    have hlt : i % z.size < z.size := Nat.mod_lt _ (by omega)
    rcases h.get (i % z.size) with ⟨h1, _⟩ | ⟨u, u', h1, h2, h3⟩
    · rw [Array.getElem?_eq_none_iff] at h1; omega
    · rw [← e, ← e', Array.getElem!_eq_getD, Array.getElem!_eq_getD, Array.getD_eq_getD_getElem?, Array.getD_eq_getD_getElem?, h1, h2]
      exact h3
  · simp [hi] at e
end
end Go.Ev
