/- Zero values bear no address, if the program's table says so. Holds for every program. -/
import Derived.Test.YtnfijnioclcnmaaDoorEvSpecial
namespace Go.Ev
open Go

def ZF (info : TypeId → Option TypeInfo) : Prop := ∀ t i z, info t = some i → i.zero = some z → flatV z = true

theorem flatL_append (l m : List Value) : flatL (l ++ m) = (flatL l && flatL m) := by
  induction l with
  | nil => simp [flatL]
  | cons x l ih => simp [flatL, ih, Bool.and_assoc]
theorem flat_cells {v : Value} (h : flatV v = true) : flatL v.cells.toList = true := by
  cases v <;> first
    | (simp only [Value.cells]; exact h)
    | (simp [Value.cells, flatL]; exact h)
theorem flatL_flatten {l : List (Array Value)} (h : ∀ x ∈ l, flatL x.toList = true) : flatL (l.map Array.toList).flatten = true := by
  induction l with
  | nil => rfl
  | cons x l ih =>
    simp only [List.map_cons, List.flatten_cons, flatL_append, Bool.and_eq_true]
    exact ⟨h x (by simp), ih fun y hy => h y (by simp [hy])⟩

theorem forIn_inv {α σ : Type} (I : σ → Prop) {f : α → σ → Option (ForInStep σ)} (hstep : ∀ a s st, I s → f a s = some st → I st.value) : ∀ (xs : List α) (init r : σ), I init → forIn xs init f = some r → I r
  | [], init, r, h, e => by
    simp only [List.forIn_nil] at e
    cases e; exact h
  | x :: xs, init, r, h, e => by
    simp only [List.forIn_cons] at e
    cases hx : f x init with
    | none => rw [hx] at e; cases e
    | some st =>
      rw [hx] at e
      have hs := hstep _ _ _ h hx
      cases st with
      | done s => cases e; exact hs
      | yield s => exact forIn_inv I hstep xs s r hs e

theorem struct_flat {info : TypeId → Option TypeInfo} (hi : ZF info) {fs : Array Field} {i : TypeInfo} {z : Value} (h : Made.reckonStruct info fs = some i) (hz : i.zero = some z) : flatV z = true := by
  unfold Made.reckonStruct at h
  simp only [Option.pure_def, Option.bind_eq_bind, ← Array.forIn_toList, Option.bind_eq_some_iff] at h
  obtain ⟨s, hs, hr⟩ := h
  have zlem : ∀ (c : Prop) [Decidable c] (x : Option (Array Value)) (j : TypeInfo) (t : TypeId) (a : Array Value), info t = some j → (∀ a, x = some a → flatL a.toList = true) →
      (if c then none else x.bind fun u => j.zero.bind fun v => some (u ++ v.cells)) = some a → flatL a.toList = true := by
    intro c _ x j t a hj hx ha
    split at ha
    · cases ha
    · simp only [Option.bind_eq_some_iff, Option.some.injEq] at ha
      obtain ⟨u, hu, v, hv, rfl⟩ := ha
      rw [Array.toList_append, flatL_append, hx u hu, flat_cells (hi t j v hj hv)]
      rfl
  have hI := forIn_inv (fun s => ∀ a, s.2.2.2.2.2.2.2.1 = some a → flatL a.toList = true) (fun f s st hI hf => by
    simp only [Option.bind_eq_some_iff] at hf
    obtain ⟨j, hj, hf⟩ := hf
    intro a ha
    by_cases c1 : j.str.isEmpty = true
    · rw [if_pos c1] at hf; cases hf
    rw [if_neg c1] at hf
    by_cases c2 : f.embedded = true
    · rw [if_pos c2] at hf; cases hf
    rw [if_neg c2] at hf
    have fin : ∀ (tag : Option String) (g : String → Array Field × Nat × Nat × Nat × Nat × Bool × Bool × Option (Array Value) × String) (g' : String → Array Field × Nat × Nat × Nat × Nat × Bool × Bool × Option (Array Value) × String),
        (tag.bind fun t => if j.bytes = 0 then some (ForInStep.yield (g t)) else some (ForInStep.yield (g' t))) = some st →
        (∀ t a, (g t).2.2.2.2.2.2.2.1 = some a → flatL a.toList = true) → (∀ t a, (g' t).2.2.2.2.2.2.2.1 = some a → flatL a.toList = true) → flatL a.toList = true := by
      intro tag g g' e h1 h2
      cases tag with
      | none => cases e
      | some t =>
        simp only [Option.bind_some] at e
        split at e
        · cases e; exact h1 t a ha
        · cases e; exact h2 t a ha
    by_cases c3 : f.tag.isEmpty = true
    · rw [if_pos c3] at hf
      exact fin _ _ _ hf (fun t a ha => zlem _ _ _ _ a hj hI ha) (fun t a ha => zlem _ _ _ _ a hj hI ha)
    · rw [if_neg c3] at hf
      exact fin _ _ _ hf (fun t a ha => zlem _ _ _ _ a hj hI ha) (fun t a ha => zlem _ _ _ _ a hj hI ha)) _ _ _ (fun a ha => by cases ha; rfl) hs
  have key : ∀ (x : Option (Array Value)), (∀ a, x = some a → flatL a.toList = true) → x.map Value.agg = some z → flatV z = true := by
    intro x hx hm
    cases x with
    | none => cases hm
    | some a => cases hm; exact hx a rfl
  split at hr
  · cases hr; exact key _ hI hz
  · cases hr; exact key _ hI hz

theorem reckon_flat {info : TypeId → Option TypeInfo} (hi : ZF info) {d : TypeDesc} {i : TypeInfo} {z : Value} (h : Made.reckon info d = some i) (hz : i.zero = some z) : flatV z = true := by
  unfold Made.reckon at h
  cases d with
  | pointer e =>
    simp only [Option.bind_eq_bind, Option.bind_eq_some_iff] at h
    obtain ⟨j, _, h⟩ := h
    split at h
    · cases h
    · split at h
      · cases h
      · simp only [Option.pure_def, Option.bind_eq_some_iff, Option.some.injEq] at h
        obtain ⟨s, _, rfl⟩ := h
        cases hz; rfl
    · simp only [Option.pure_def, Option.bind_eq_some_iff, Option.some.injEq] at h
      obtain ⟨s, _, rfl⟩ := h
      cases hz; rfl
  | slice e =>
    simp only [Option.pure_def, Option.bind_eq_bind, Option.bind_eq_some_iff, Option.some.injEq] at h
    obtain ⟨_, _, _, _, rfl⟩ := h
    cases hz; rfl
  | map k e =>
    simp only [Option.pure_def, Option.bind_eq_bind, Option.bind_eq_some_iff, Option.some.injEq] at h
    obtain ⟨_, _, _, _, _, _, _, _, rfl⟩ := h
    cases hz; rfl
  | chan dr e =>
    simp only [Option.pure_def, Option.bind_eq_bind, Option.bind_eq_some_iff, Option.some.injEq] at h
    obtain ⟨_, _, _, _, rfl⟩ := h
    cases hz; rfl
  | func ps rs v =>
    simp only [Option.pure_def, Option.bind_eq_bind, Option.bind_eq_some_iff, Option.some.injEq] at h
    obtain ⟨_, _, rfl⟩ := h
    cases hz; rfl
  | array n e =>
    simp only [Option.pure_def, Option.bind_eq_bind, Option.bind_eq_some_iff, Option.some.injEq] at h
    obtain ⟨j, hj, _, _, rfl⟩ := h
    simp only [] at hz
    split at hz
    · cases hz
    · split at hz
      · cases hz; rfl
      · simp only [Option.map_eq_some_iff] at hz
        obtain ⟨y, hy, rfl⟩ := hz
        show flatL (Array.flatten (Array.replicate n y.cells)).toList = true
        rw [Array.toList_flatten]
        refine flatL_flatten fun x hx => ?_
        have : x = y.cells := by
          have := List.eq_of_mem_replicate (by simpa using hx : x ∈ List.replicate n y.cells)
          exact this
        rw [this]
        exact flat_cells (hi e j y hj hy)
  | struct fs => exact struct_flat hi h hz
  | _ => cases h

/-- The types' zeros bear no address: told by looking. -/
def zerosFlat (P : Program) : Bool := P.types.toList.all fun i => match i.zero with
  | some z => flatV z
  | none => true
theorem zerosFlat_spec {P : Program} (h : zerosFlat P = true) : ZerosFlat P := by
  have htab : ∀ (t : Nat) (i : TypeInfo) (z : Value), P.types[t]? = some i → i.zero = some z → flatV z = true := by
    intro t i z ht hz
    have hm : i ∈ P.types.toList := by simpa using Array.mem_of_getElem? ht
    have := List.all_eq_true.1 h i hm
    rw [hz] at this
    exact this
  have hmade : ∀ n, ZF (Made.infoAt P.toTables n) := by
    intro n
    induction n with
    | zero => intro t i z ht; cases ht
    | succ n ih =>
      intro t i z ht hz
      unfold Made.infoAt at ht
      split at ht
      · exact htab t i z ht hz
      · simp only [Option.bind_eq_some_iff] at ht
        obtain ⟨d, _, hd⟩ := ht
        exact reckon_flat ih hd hz
  intro t i z ht hz
  unfold Tables.info? at ht
  split at ht
  · exact htab t i z ht hz
  · exact hmade _ t i z ht hz
end Go.Ev
