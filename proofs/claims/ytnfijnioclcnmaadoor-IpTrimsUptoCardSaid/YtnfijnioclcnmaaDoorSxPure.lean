/- A call that only reads and gives back plain values: told at one heap, it holds at every heap that holds the same. Holds for every program. -/
import Derived.Test.YtnfijnioclcnmaaDoorSxReal
namespace Go.Ev
open Go Go.RowKit

section
variable {P : Program} {gl : Nat}
/-- Two readings of a number's block agree. -/
def AgK (n : Nat) (ρ : Nat → Nat) (κ0 κ1 : K) : Prop := ∀ i, i < n → κ0 i = κ1 (ρ i)
theorem CTup.pure {g : FuncId} {args0 : List Value} {h0 : AH} {v : Value} {h0' : AH} (t : CTup P gl g args0 h0 (.ret v) h0') (wf0 : WF h0) (hv : flatV v = true)
    (hw : ∀ i, i < h0.n → h0'.wr.testBit i = false) (ρ : Nat → Nat) {args1 : List Value} {h1 h1' : AH} (hm : Marked h1 h1')
    (hargs : ∀ κ0 κ1, AgK h0.n ρ κ0 κ1 → ∀ l, VL κ1 args1 l → VL κ0 args0 l)
    (hobj : ∀ i, i < h0.n → h0'.touched i = true → h1'.touched (ρ i) = true ∧ ρ i < h1.n ∧ ∃ o0 o1, h0.get i = some o0 ∧ h1.get (ρ i) = some o1 ∧ (o1.view = true → o0.view = true) ∧ ∀ κ0 κ1, AgK h0.n ρ κ0 κ1 → ∀ b w, ObjIn P κ1 b w o1 → ObjIn P κ0 b w o0)
    (hinj : ∀ i i', i < h0.n → i' < h0.n → h0'.touched i = true → h0'.touched i' = true → ρ i = ρ i' → i = i')
    (hgl : gl ≤ h0.n) (hglρ : ∀ g, g < gl → ρ g = g) : CTup P gl g args1 h1 (.ret v) h1' := by
  intro wf1
  refine ⟨⟨hm.ext, hm.wf wf1⟩, fun κ G args' w hg hrel hvl hag hfs => ?_⟩
  obtain ⟨⟨x0, wf0'⟩, s0⟩ := t wf0
  let κ0 : K := fun i => if i < h0.n then κ (ρ i) else none
  have hk0 : ∀ i, i < h0.n → κ0 i = κ (ρ i) := fun i hi => if_pos hi
  let G0 : Nat → Option AObj := fun i => if i < h0.n ∧ h0'.touched i = true then h0.get i else none
  have hgG : ∀ i o, G0 i = some o → i < h0.n ∧ h0'.touched i = true ∧ h0.get i = some o := by
    intro i o hi
    simp only [G0] at hi
    split at hi
    · rename_i hc; exact ⟨hc.1, hc.2, hi⟩
    · cases hi
  have hrel0 : Rel P κ0 G0 w := by
    refine ⟨fun i o hi => ?_, fun i i' o o' b b' hi hi' hb hb' hblk hvw => ?_, fun i b hb => ?_⟩
    · obtain ⟨h1i, h2i, h3i⟩ := hgG i o hi
      obtain ⟨ht, hlt, o0, o1, q0, q1, _, q2⟩ := hobj i h1i h2i
      rw [q0] at h3i
      cases h3i
      have hGi : G (ρ i) = some o1 := by rw [hag (ρ i) hlt ht]; exact q1
      obtain ⟨b, hb, hin⟩ := hrel.at_ _ _ hGi
      exact ⟨b, by rw [hk0 i h1i]; exact hb, q2 κ0 κ hk0 b w hin⟩
    · obtain ⟨a1, a2, a3⟩ := hgG i o hi
      obtain ⟨c1, c2, c3⟩ := hgG i' o' hi'
      obtain ⟨ht, hlt, _, o1, q0, q1, qv, _⟩ := hobj i a1 a2
      obtain ⟨ht', hlt', _, o1', q0', q1', qv', _⟩ := hobj i' c1 c2
      rw [q0] at a3
      rw [q0'] at c3
      cases a3
      cases c3
      rw [hk0 i a1] at hb
      rw [hk0 i' c1] at hb'
      exact hinj i i' a1 c1 a2 c2 (hrel.one _ _ _ _ _ _ (by rw [hag _ hlt ht]; exact q1) (by rw [hag _ hlt' ht']; exact q1') hb hb' hblk (view_and hvw qv qv'))
    · simp only [κ0] at hb
      split at hb
      · exact hrel.old _ b hb
      · cases hb
  have hg0 : KG gl κ0 := fun g hgg => by
    obtain ⟨b, h1, h2⟩ := hg g hgg
    exact ⟨b, by rw [hk0 g (by omega), hglρ g hgg]; exact h1, h2⟩
  have hag0 : Agree h0 h0' G0 := fun i hi ht => if_pos ⟨hi, ht⟩
  have hfs0 : Fresh h0 h0' κ0 G0 := fun i hi _ => ⟨if_neg (fun c => by omega), if_neg (by omega)⟩
  refine (s0 κ0 G0 args' w hg0 hrel0 (hargs κ0 κ hk0 _ hvl) hag0 hfs0).mono fun e w' hen => ?_
  obtain ⟨κ', hend, _, hkx⟩ := hen
  have hold : ∀ k, k < w.heap.size → w'.heap[k]? = w.heap[k]? := fun k hk => hkx.keep k hk fun id b hb _ => by
    simp only [κ0] at hb
    split at hb
    · rename_i hi; exact hw id hi
    · cases hb
  cases hend with
  | ret hr =>
  rename_i v'
  have hmg : merge h1 h1' G = G := merge_read wf1 ⟨hm.1, hm.2.1, hm.2.2.1⟩ hag
  refine ⟨κ, ?_, ?_, K.le_refl _, fun _ _ => rfl, fun _ _ e => .inl e, fun k hk _ => hold k hk, hkx.same⟩
  · rw [VR.eq_of_flat hr hv]; exact .ret (VR.flat v hv)
  · rw [hmg]
    exact ⟨fun i o hi => let ⟨b, hb, hin⟩ := hrel.at_ i o hi; ⟨b, hb, hin.heap (hold _ (hrel.old i b hb))⟩, hrel.one, fun i b hb => Nat.lt_of_lt_of_le (hrel.old i b hb) hkx.same.size⟩
/-- A heap of which nothing is known but the numbers of the variables. -/
abbrev bare (gl : Nat) : AH := ⟨.nil, gl, 0, 0⟩
theorem wf_bare (n : Nat) : WF (bare n) := ⟨fun id o h => (by cases h), fun id h => (by simp at h)⟩
theorem low_of {x m : Nat} (h : Nat.beq (Nat.land x (2 ^ m - 1)) 0 = true) (i : Nat) (hi : i < m) : x.testBit i = false := by
  rw [beq_eq, decide_eq_true_eq] at h
  exact low_bits h hi
/-- A call of plain values: told at the bare heap. -/
theorem CTup.plain {g : FuncId} {args : List Value} {v : Value} {h0' : AH} (t : CTup P gl g args (bare gl) (.ret v) h0') (hf : flatL args = true) (hv : flatV v = true)
    (hw : Nat.beq (Nat.land h0'.wr (2 ^ gl - 1)) 0 = true) (hr : Nat.beq (Nat.land h0'.rd (2 ^ gl - 1)) 0 = true) (h : AH) : CTup P gl g args h (.ret v) h := by
  refine CTup.pure t (wf_bare gl) hv (low_of hw) (fun i => i) (Marked.refl h) (fun κ0 κ1 _ l hl => ?_) (fun i hi ht => ?_) (fun i i' hi _ ht _ _ => ?_) (Nat.le_refl _) (fun _ _ => rfl)
  · have := VL.eq_of_flat hl hf
    subst this
    exact VL.flat _ hf
  · simp [AH.touched, low_of hw i hi, low_of hr i hi] at ht
  · simp [AH.touched, low_of hw i hi, low_of hr i hi] at ht
/-- A law of plain values. -/
theorem CTup.law {g : FuncId} {args : List Value} {v : Value} {h' : AH} (t : CTup P gl g args (bare gl) (.ret v) h') (hf : flatL args = true) (hv : flatV v = true) (hw : Nat.beq (Nat.land h'.wr (2 ^ gl - 1)) 0 = true) {w : World} (hsz : gl ≤ w.heap.size) :
    Calls P g ⟨args⟩ w fun e w' => e = .returned v ∧ Below w.heap.size w w' := by
  have hold := kg_old hsz
  refine ((t (wf_bare gl)).2 (kg gl) (fun _ => none) ⟨args⟩ w (kg_KG gl) ⟨fun id o h => (by cases h), fun id id' o o' b b' h => (by cases h), fun id b h => (hold id b h).1⟩ (VL.flat args hf) (fun id _ _ => rfl) (fun id hid _ => ⟨rfl, ?_⟩)).mono fun en w' hen => ?_
  · cases hk : kg gl id with
    | none => rfl
    | some b => have := (hold id b hk).2; exact absurd hid (by show ¬ gl ≤ id; omega)
  · obtain ⟨κ', hend, _, hkx⟩ := hen
    cases hend with
    | ret hr =>
    exact ⟨by rw [VR.eq_of_flat hr hv], hkx.same.os, hkx.same.tape, hkx.same.output, hkx.same.size, fun k hk => hkx.keep k hk fun id b hb _ => low_of hw id (hold id b hb).2⟩
/-! ### calls of plain values, told by functions -/

abbrev Sums := List (FuncId × (List Value → Option Value))
def Sums.at (g : FuncId) : Sums → Option (List Value → Option Value)
  | [] => none
  | (k, fn) :: l => cond (Nat.beq g k) (some fn) (Sums.at g l)
def Sums.Ok (P : Program) (gl : Nat) (l : Sums) : Prop := ∀ x ∈ l, ∀ args v, x.2 args = some v → ∀ h, CTup P gl x.1 args h (.ret v) h
abbrev OpHints := List (FuncId × Nat × OpHint)
def OpHints.at (g s : Nat) : OpHints → Option OpHint
  | [] => none
  | (k, j, x) :: l => cond (Nat.beq g k && Nat.beq s j) (some x) (OpHints.at g s l)
def plainHints (ops : OpHints) (sums : Sums) : Hints where
  op g s := OpHints.at g s ops
  call g args h := match Sums.at g sums with
    | some fn => match fn args with
      | some v => some ((.ret v, h), [])
      | none => none
    | none => none
  block _ _ _ _ _ := none
theorem Sums.at_mem {g : FuncId} {fn : List Value → Option Value} : ∀ {l : Sums}, Sums.at g l = some fn → (g, fn) ∈ l
  | [], h => by cases h
  | (k, f) :: l, h => by
    unfold Sums.at at h
    cases hk : Nat.beq g k with
    | true => rw [hk] at h; cases h; rw [beq_eq, decide_eq_true_eq] at hk; subst hk; exact List.mem_cons_self ..
    | false => rw [hk] at h; exact List.mem_cons_of_mem _ (Sums.at_mem h)
theorem plainHints_ok {ops : OpHints} {sums : Sums} (hs : Sums.Ok P gl sums) : (plainHints ops sums).Ok P gl := by
  refine ⟨fun g args h en h1 pre e _ => ?_, fun g id c f h ex f1 h1 pre e _ => (by cases e)⟩
  simp only [plainHints] at e
  split at e
  · rename_i fn hfn
    split at e
    · rename_i v hv; cases e; exact hs _ (Sums.at_mem hfn) args v hv h
    · cases e
  · cases e
theorem Sums.Ok.nil : Sums.Ok P gl [] := fun _ h => (by cases h)
theorem Sums.Ok.cons {g : FuncId} {fn : List Value → Option Value} {l : Sums} (h : ∀ args v, fn args = some v → ∀ h, CTup P gl g args h (.ret v) h) (hl : Sums.Ok P gl l) : Sums.Ok P gl ((g, fn) :: l) := by
  intro x hx
  rcases List.mem_cons.1 hx with rfl | hx
  · exact h
  · exact hl x hx
/-- What a call of plain values comes to, if it turns nothing that was there. -/
def plainOut (m : Nat) : PO (AEnd × AH) → Option (Value × List Prop)
  | some ((.ret v, h1), ps) => cond (flatV v && Nat.beq (Nat.land h1.wr (2 ^ m - 1)) 0 && Nat.beq (Nat.land h1.rd (2 ^ m - 1)) 0) (some (v, ps)) none
  | _ => none
theorem plain_tup (hz : zerosFlat P = true) (hm : P.follows .mixedOrders = true) {H : Hints} (hH : H.Ok P gl) {n : Nat} {g : FuncId} {args : List Value} {v : Value} {ps : List Prop} (e : plainOut gl ((runHR P gl H n).2 g args (bare gl)) = some (v, ps)) (hp : All ps) (hf : flatL args = true) (h : AH) :
    CTup P gl g args h (.ret v) h := by
  unfold plainOut at e
  split at e
  · rename_i v0 h1 qs he
    cases hc : (flatV v0 && Nat.beq (Nat.land h1.wr (2 ^ gl - 1)) 0 && Nat.beq (Nat.land h1.rd (2 ^ gl - 1)) 0) with
    | false => rw [hc] at e; cases e
    | true =>
      rw [hc] at e
      cases e
      simp only [Bool.and_eq_true] at hc
      exact (runHR_call hz hm hH he hp).plain hf hc.1.1 hc.1.2 hc.2 h
  · cases e
theorem plain_law {g : FuncId} {args : List Value} {v : Value} (t : ∀ h, CTup P gl g args h (.ret v) h) (hf : flatL args = true) (hv : flatV v = true) {w : World} (hsz : gl ≤ w.heap.size) :
    Calls P g ⟨args⟩ w fun e w' => e = .returned v ∧ Below w.heap.size w w' := (t (bare gl)).law hf hv (by show Nat.beq ((0 : Nat) &&& (2 ^ gl - 1)) 0 = true; rw [Nat.zero_and]; rfl) hsz
end
end Go.Ev
