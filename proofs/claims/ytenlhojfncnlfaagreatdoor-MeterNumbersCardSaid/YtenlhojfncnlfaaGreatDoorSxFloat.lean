/- The order of floating-point words is one of whole numbers. Plain Lean. -/
import Ieee.Arith
namespace Go.Ev
open Ieee

theorem cmp_int (x y : Int) : compare x y = if x < y then .lt else if x = y then .eq else .gt := rfl
theorem signed_add (s : Bool) (m u d : Nat) : signed s m (u + d) = signed s m u * 2 ^ d := by
  unfold signed
  have e : ((m <<< (u + d) : Nat) : Int) = ((m <<< u : Nat) : Int) * 2 ^ d := by
    rw [Nat.shiftLeft_eq, Nat.shiftLeft_eq, Nat.pow_add]
    push_cast
    rw [Int.mul_assoc]
  rw [e]
  cases s
  · rfl
  · simp only [if_true]; rw [Int.neg_mul]
theorem cmp_scale (x y : Int) (d : Nat) : compare (x * 2 ^ d) (y * 2 ^ d) = compare x y := by
  have h : (0 : Int) < 2 ^ d := Int.pow_pos (by decide)
  rw [cmp_int, cmp_int]
  have h1 : x * 2 ^ d < y * 2 ^ d ↔ x < y := Int.mul_lt_mul_right h
  have h2 : x * 2 ^ d = y * 2 ^ d ↔ x = y := by
    constructor
    · intro e; exact Int.eq_of_mul_eq_mul_right (by omega) e
    · intro e; rw [e]
  simp only [h1, h2]
/-- What a datum counts, in units of 2 ^ base; M: what an infinity counts. -/
def count (base : Int) (M : Int) : Datum → Int
  | .number s m i => signed s m (i - base).toNat
  | .infinity s => if s then -M else M
  | .nan _ _ => 0
def placeOf : Datum → Int
  | .number _ _ i => i
  | _ => 0
theorem order_count {base M : Int} {x y : Datum} (hx : x.isNaN = false) (hy : y.isNaN = false) (px : base ≤ placeOf x) (py : base ≤ placeOf y)
    (mx : ∀ s m i, x = .number s m i → (count base M x).natAbs < M) (my : ∀ s m i, y = .number s m i → (count base M y).natAbs < M) (hM : 0 < M) : x.order y = some (compare (count base M x) (count base M y)) := by
  cases x with
  | nan => simp [Datum.isNaN] at hx
  | infinity s =>
    cases y with
    | nan => simp [Datum.isNaN] at hy
    | infinity t =>
      cases s <;> cases t <;> simp only [Datum.order, count, Bool.toNat] <;> rw [cmp_int] <;> simp <;> first | rfl | (split <;> first | rfl | omega) | omega | skip
      all_goals (first | rfl | (rw [if_neg (by omega), if_neg (by omega)]; rfl) | (rw [if_pos (by omega)]; rfl))
    | number t n j =>
      have h := my t n j rfl
      simp only [Datum.order]
      rw [cmp_int]
      cases s
      · have : count base M (.infinity false) = M := rfl
        rw [this]; generalize count base M _ = c at h ⊢; have a1 : ¬ M < c := by omega
        have a2 : ¬ M = c := by omega
        rw [if_neg a1, if_neg a2]; rfl
      · have : count base M (.infinity true) = -M := rfl
        rw [this]; generalize count base M _ = c at h ⊢; have a1 : -M < c := by omega
        rw [if_pos a1]; rfl
  | number s m i =>
    cases y with
    | nan => simp [Datum.isNaN] at hy
    | infinity t =>
      have h := mx s m i rfl
      simp only [Datum.order]
      rw [cmp_int]
      cases t
      · have : count base M (.infinity false) = M := rfl
        rw [this]; generalize count base M _ = c at h ⊢; have a1 : c < M := by omega
        rw [if_pos a1]; rfl
      · have : count base M (.infinity true) = -M := rfl
        rw [this]; generalize count base M _ = c at h ⊢; have a1 : ¬ c < -M := by omega
        have a2 : ¬ c = -M := by omega
        rw [if_neg a1, if_neg a2]; rfl
    | number t n j =>
      simp only [Datum.order, count]
      have px' : base ≤ i := px
      have py' : base ≤ j := py
      have e1 : (i - base).toNat = (i - min i j).toNat + (min i j - base).toNat := by omega
      have e2 : (j - base).toNat = (j - min i j).toNat + (min i j - base).toNat := by omega
      rw [e1, e2, signed_add, signed_add, cmp_scale]
/-- A few words' order is that of a few whole numbers. -/
theorem keys (l : List Datum) (hl : ∀ x ∈ l, x.isNaN = false) : ∃ base M : Int, 0 < M ∧ (∀ x ∈ l, base ≤ placeOf x) ∧ (∀ x ∈ l, ∀ s m i, x = .number s m i → (count base M x).natAbs < M) ∧ ∀ x ∈ l, ∀ y ∈ l, x.order y = some (compare (count base M x) (count base M y)) := by
  obtain ⟨base, hb⟩ : ∃ base : Int, ∀ x ∈ l, base ≤ placeOf x := by
    clear hl
    induction l with
    | nil => exact ⟨0, fun _ h => by cases h⟩
    | cons x l ih =>
      obtain ⟨b, hb⟩ := ih
      refine ⟨min b (placeOf x), fun y hy => ?_⟩
      rcases List.mem_cons.1 hy with rfl | hy
      · omega
      · have := hb y hy; omega
  obtain ⟨M, hM0, hM⟩ : ∃ M : Int, 0 < M ∧ ∀ x ∈ l, ∀ s m i, x = .number s m i → ((signed s m (i - base).toNat).natAbs : Int) < M := by
    clear hl hb
    induction l with
    | nil => exact ⟨1, by decide, fun _ h => by cases h⟩
    | cons x l ih =>
      obtain ⟨M, h0, hM⟩ := ih
      refine ⟨max M ((match x with | .number s m i => ((signed s m (i - base).toNat).natAbs : Int) | _ => 0) + 1), by omega, fun y hy s m i e => ?_⟩
      rcases List.mem_cons.1 hy with rfl | hy
      · subst e; simp only []; omega
      · have := hM y hy s m i e; omega
  have hc : ∀ x ∈ l, ∀ s m i, x = .number s m i → (count base M x).natAbs < M := fun x hx s m i e => by subst e; exact hM _ hx s m i rfl
  exact ⟨base, M, hM0, hb, hc, fun x hx y hy => order_count (hl x hx) (hl y hy) (hb x hx) (hb y hy) (hc x hx) (hc y hy) hM0⟩
theorem order_nan {x y : Datum} : x.order y = none ↔ x.isNaN = true ∨ y.isNaN = true := by
  cases x <;> cases y <;> simp [Datum.order, Datum.isNaN]
theorem signed_mul (s : Bool) (m u : Nat) : signed s m u = (if s then -1 else 1) * ((m * 2 ^ u : Nat) : Int) := by
  unfold signed
  rw [Nat.shiftLeft_eq]
  cases s <;> simp
theorem signed_zero {s : Bool} {m u : Nat} : signed s m u = 0 ↔ m = 0 := by
  rw [signed_mul]
  have hp : 0 < 2 ^ u := Nat.two_pow_pos u
  constructor
  · intro h
    have h1 : m * 2 ^ u = 0 := by generalize m * 2 ^ u = k at h; cases s <;> simp at h <;> omega
    rcases Nat.mul_eq_zero.1 h1 with h | h
    · exact h
    · omega
  · rintro rfl; simp
theorem signed_neg {s : Bool} {m u : Nat} (h : signed s m u < 0) : s = true := by
  rw [signed_mul] at h
  generalize m * 2 ^ u = k at h
  cases s
  · simp at h; omega
  · rfl
theorem signed_pos {s : Bool} {m u : Nat} (h : 0 < signed s m u) : s = false := by
  rw [signed_mul] at h
  generalize m * 2 ^ u = k at h
  cases s
  · rfl
  · simp at h; omega
end Go.Ev
