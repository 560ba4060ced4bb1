/- The evaluator with its fuel, and what a closed call comes to. Holds for every program. -/
import Derived.Test.YtnfijnioclcnmaaDoorEvZero
namespace Go.Ev
open Go Go.RowKit

/-- The evaluator, so many steps deep: code, functions, a deferred function's code, deferred calls. -/
noncomputable def run (P : Program) (gl : Nat) (sp : OpEv) (n : Nat) : RecC × RecF × RecS × RecD :=
  Nat.rec (fun _ _ _ => none, fun _ _ _ => none, fun _ _ _ _ => none, fun _ _ _ _ => none)
    (fun _ r => (stepC P gl (orEv (aop P gl r.2.1) sp) r.2.1 r.1, stepF P r.1 r.2.2.2, stepS P gl (orEv (aop P gl r.2.1) sp) r.2.1 r.1 r.2.2.1, stepD P r.2.2.1)) n
/-- A call over no heap but numbers of blocks: what it comes to, where it does not write. -/
noncomputable def evals (P : Program) (gl m n : Nat) (g : FuncId) (args : List Value) (p : Value → Bool) : Bool :=
  match (run P gl (checked gl (special P)) n).2.1 g args ⟨.nil, m, 0, 0⟩ with
  | some (.ret v, h) => flatV v && p v && Nat.beq (Nat.land h.wr (2 ^ m - 1)) 0
  | _ => false
section
variable {P : Program} {gl : Nat} {sp : OpEv}
theorem run_sound (hz : ZerosFlat P) (hm : P.follows .mixedOrders = true) (hsp : OpSound P gl sp) : ∀ n, CodeSound P gl (run P gl sp n).1 ∧ CallSound P gl (run P gl sp n).2.1 ∧ SoundS P gl (run P gl sp n).2.2.1 ∧ DeferSound P gl (run P gl sp n).2.2.2
  | 0 => ⟨fun _ _ _ _ _ _ e => (by cases e), fun _ _ _ _ _ e => (by cases e), fun _ _ _ _ _ _ _ _ e => (by cases e), fun _ _ _ _ _ _ e => (by cases e)⟩
  | n + 1 => by
    obtain ⟨h1, h2, h3, h4⟩ := run_sound hz hm hsp n
    have hev := (aop_sound hz h2).or hsp
    exact ⟨stepC_sound hm hev h2 h1, stepF_sound h1 h4, stepS_sound hev h2 h1 h3, stepD_sound h3⟩

theorem low_bits {x m : Nat} (h : Nat.land x (2 ^ m - 1) = 0) {i : Nat} (hi : i < m) : x.testBit i = false := by
  have h1 : (x &&& (2 ^ m - 1)).testBit i = false := by
    have : x &&& (2 ^ m - 1) = 0 := h
    rw [this]; simp
  rw [Nat.testBit_and, Nat.testBit_two_pow_sub_one] at h1
  simpa [hi] using h1

theorem evals_calls (hz : zerosFlat P = true) (hm : P.follows .mixedOrders = true) {m n : Nat} {g : FuncId} {args : List Value} {p : Value → Bool} (e : evals P gl m n g args p = true)
    {κ : K} {args' : Array Value} {w : World} (hg : KG gl κ) (hold : ∀ id b, κ id = some b → b.blk < w.heap.size ∧ id < m) (hargs : VL κ args args'.toList) :
    Calls P g args' w fun e w' => ∃ v, e = .returned v ∧ p v = true ∧ Below w.heap.size w w' := by
  unfold evals at e
  split at e
  · rename_i v h he
    simp only [Bool.and_eq_true, beq_eq, decide_eq_true_eq] at e
    obtain ⟨⟨e1, e2⟩, e3⟩ := e
    have hwf : WF ⟨.nil, m, 0, 0⟩ := ⟨fun id o h => (by cases h), fun id h => (by simp at h)⟩
    have hs := (run_sound (zerosFlat_spec hz) hm special_sound n).2.1 g args _ _ h he hwf
    have hrel : Rel P κ (fun _ => none) w := ⟨fun id o h => (by cases h), fun id id' o o' b b' h => (by cases h), fun id b h => (hold id b h).1⟩
    refine (hs.2 κ (fun _ => none) args' w hg hrel hargs (fun id _ _ => rfl) (fun id hid _ => ⟨rfl, ?_⟩)).mono fun en w' hen => ?_
    · cases hk : κ id with
      | none => rfl
      | some b => have := (hold id b hk).2; exact absurd hid (by show ¬ m ≤ id; omega)
    · obtain ⟨κ', hend, _, hkx⟩ := hen
      cases hend with
      | ret hv =>
      rename_i v'
      refine ⟨v', rfl, by rw [VR.eq_of_flat hv e1]; exact e2, hkx.same.os, hkx.same.tape, hkx.same.output, hkx.same.size, fun k hk => hkx.keep k hk fun id b hb hbk => low_bits e3 (hold id b hb).2⟩
  · cases e

def kg (gl : Nat) : K := fun id => cond (Nat.blt id gl) (some ⟨id, 0, 0, true, 0⟩) none
theorem kg_KG (gl : Nat) : KG gl (kg gl) := fun g hg => ⟨⟨g, 0, 0, true, 0⟩, by unfold kg; rw [show Nat.blt g gl = true by rw [Nat.blt_eq]; exact hg]; rfl, rfl, rfl⟩
theorem kg_old {gl N : Nat} (h : gl ≤ N) : ∀ id b, kg gl id = some b → b.blk < N ∧ id < gl := by
  intro id b hb
  unfold kg at hb
  cases hq : Nat.blt id gl with
  | false => rw [hq] at hb; cases hb
  | true => rw [hq] at hb; cases hb; have := blt_lt hq; exact ⟨by show id < N; omega, this⟩
/-- A closed call. -/
theorem evals_closed (hz : zerosFlat P = true) (hm : P.follows .mixedOrders = true) {n : Nat} {g : FuncId} {args : List Value} {p : Value → Bool} (e : evals P gl gl n g args p = true) (hf : flatL args = true) {w : World} (hsz : gl ≤ w.heap.size) :
    Calls P g ⟨args⟩ w fun e w' => ∃ v, e = .returned v ∧ p v = true ∧ Below w.heap.size w w' :=
  evals_calls hz hm e (kg_KG gl) (kg_old hsz) (VL.flat args hf)
end
end Go.Ev
