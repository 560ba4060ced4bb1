/- IP: checksums do not ask for the order of pairs: in plain numbers. -/
import Derived.Test.YtnfijnioclcnmaaDoorPrIpS
namespace Go.Proofs.YtnfijnioclcnmaaDoor
open Go Go.RowKit Go.Ev

/-! ### what a checksum hangs on -/

def pairO (cs : List Value) (o i : Nat) : Int := byteAt cs (o + 2 * i) * 256 + byteAt cs (o + 2 * i + 1)
def addUp (f : Nat → Int) : Nat → Int
  | 0 => 0
  | k + 1 => addUp f k + f k
def fold16 (t : Int) : Int := if t = 0 then 0 else (t - 1) % 65535 + 1
theorem twoV_pairO (cs : List Value) (o k : Nat) : twoV cs o (2 * (k : Int)) = pairO cs o k := by
  unfold twoV pairO
  have e1 : o + (2 * (k : Int)).toNat * 1 = o + 2 * k := by omega
  have e2 : o + (2 * (k : Int) + 1).toNat * 1 = o + 2 * k + 1 := by omega
  rw [e1, e2]
theorem addUp_pos {f : Nat → Int} : ∀ k, (∀ i, i < k → 0 ≤ f i) → 0 ≤ addUp f k
  | 0, _ => Int.le_refl 0
  | k + 1, h => by
    have := addUp_pos k fun i hi => h i (by omega)
    have := h k (by omega)
    unfold addUp; omega
theorem sumK_fold {cs : List Value} {o n : Nat} (hb : Bytes cs o n) : ∀ k, 2 * k ≤ n → sumK cs o k = fold16 (addUp (pairO cs o) k)
  | 0, _ => rfl
  | k + 1, h => by
    have ih := sumK_fold hb k (by omega)
    obtain ⟨t0, t1⟩ := twoV_bounds hb (i := 2 * (k : Int)) (by omega) (by omega)
    have hp : 0 ≤ addUp (pairO cs o) k := addUp_pos k fun i hi => by
      rw [← twoV_pairO]
      exact (twoV_bounds hb (i := 2 * (i : Int)) (by omega) (by omega)).1
    show stepS (sumK cs o k) (twoV cs o (2 * (k : Int))) = fold16 (addUp (pairO cs o) k + pairO cs o k)
    rw [twoV_pairO] at t0 t1 ⊢
    rw [ih]
    generalize addUp (pairO cs o) k = A at hp
    generalize pairO cs o k = t at t0 t1
    unfold stepS fold16
    by_cases hA : A = 0
    · subst hA
      by_cases ht : t = 0
      · subst ht; decide
      · rw [if_pos rfl, if_neg (by omega)]; omega
    · rw [if_neg hA, if_neg (by omega)]; omega
theorem addUp_congr {f g : Nat → Int} : ∀ k, (∀ i, i < k → f i = g i) → addUp f k = addUp g k
  | 0, _ => rfl
  | k + 1, h => by unfold addUp; rw [addUp_congr k fun i hi => h i (by omega), h k (by omega)]
/-- Turned round, it is the same. -/
theorem addUp_turn (f : Nat → Int) (p r : Nat) (hr : r < p) : ∀ i, i ≤ p → addUp (fun j => f ((j + r) % p)) i = if i + r ≤ p then addUp f (i + r) - addUp f r else addUp f p - addUp f r + addUp f (i + r - p)
  | 0, _ => by
    rw [if_pos (by omega)]
    simp [addUp]
  | i + 1, h => by
    have ih := addUp_turn f p r hr i (by omega)
    show addUp (fun j => f ((j + r) % p)) i + f ((i + r) % p) = _
    rw [ih]
    by_cases h1 : i + 1 + r ≤ p
    · rw [if_pos (by omega), if_pos h1, Nat.mod_eq_of_lt (by omega)]
      have : i + 1 + r = i + r + 1 := by omega
      rw [this]
      show _ = addUp f (i + r) + f (i + r) - addUp f r
      omega
    · rw [if_neg h1]
      by_cases h2 : i + r ≤ p
      · have e : i + r = p := by omega
        rw [if_pos h2, e, Nat.mod_self]
        have e2 : i + 1 + r - p = 1 := by omega
        rw [e2]
        show _ = _ + (addUp f 0 + f 0)
        simp [addUp]
      · rw [if_neg h2]
        have e : (i + r) % p = i + r - p := by
          rw [Nat.mod_eq_sub_mod (by omega), Nat.mod_eq_of_lt (by omega)]
        have e2 : i + 1 + r - p = i + r - p + 1 := by omega
        rw [e, e2]
        show _ = _ + (addUp f (i + r - p) + f (i + r - p))
        omega
theorem addUp_round (f : Nat → Int) (p r : Nat) (hr : r < p) : addUp (fun j => f ((j + r) % p)) p = addUp f p := by
  rw [addUp_turn f p r hr p (Nat.le_refl p)]
  by_cases h : r = 0
  · subst h
    rw [if_pos (by omega)]
    simp [addUp]
  · rw [if_neg (by omega)]
    have : p + r - p = r := by omega
    rw [this]; omega

/-! ### the places of the pairs -/

theorem tmod_in {p : Int} (hp : 0 < p) (x : Int) : -p < x.tmod p ∧ x.tmod p < p := by
  rcases Int.le_total 0 x with hx | hx
  · rw [Int.tmod_eq_emod_of_nonneg hx]
    have := Int.emod_nonneg x (show p ≠ 0 by omega)
    have := Int.emod_lt_of_pos x hp
    omega
  · have e : x = -(-x) := by omega
    rw [e, Int.neg_tmod, Int.tmod_eq_emod_of_nonneg (by omega)]
    have := Int.emod_nonneg (-x) (show p ≠ 0 by omega)
    have := Int.emod_lt_of_pos (-x) hp
    omega
theorem idxV_eq {P : Nat} (hP : 0 < P) (x : Int) (i : Nat) : idxV (P : Int) x (i : Int) = (((i + (x % (P : Int)).toNat) % P : Nat) : Int) := by
  have hp : (0 : Int) < (P : Int) := by omega
  unfold idxV
  have h1 := tmod_in hp ((i : Int) + x.tmod P)
  have e1 := Int.emod_nonneg x (show (P : Int) ≠ 0 by omega)
  have key : ∀ y : Int, ((y.tmod P + P).tmod P) = y % (P : Int) := fun y => by
    have h := tmod_in hp y
    rw [Int.tmod_eq_emod_of_nonneg (by omega)]
    rw [Int.add_emod_right]
    rcases Int.le_total 0 y with hy | hy
    · rw [Int.tmod_eq_emod_of_nonneg hy, Int.emod_emod_of_dvd _ (Int.dvd_refl _)]
    · have e : y = -(-y) := by omega
      have e2 : y.tmod P = -((-y) % P) := by
        conv => lhs; rw [e]
        rw [Int.neg_tmod, Int.tmod_eq_emod_of_nonneg (by omega)]
      rw [e2]
      conv => rhs; rw [e]
      have hd := Int.emod_add_mul_ediv (-y) P
      have : -((-y) % P) = -(-y) + P * ((-y) / P) := by omega
      rw [this, Int.add_mul_emod_self_left]
  rw [key]
  have h2 : ((i : Int) + x.tmod P) % (P : Int) = ((i : Int) + x) % (P : Int) := by
    have hd := Int.tmod_add_mul_tdiv x P
    have : (i : Int) + x = (i : Int) + x.tmod P + P * x.tdiv P := by omega
    rw [this, Int.add_mul_emod_self_left]
  rw [h2, Int.add_emod]
  have e2 : ((x % (P : Int)).toNat : Int) = x % (P : Int) := by omega
  rw [Int.natCast_emod, Int.natCast_add, e2]
  rw [Int.add_emod ((i : Int)) (x % (P : Int)), Int.emod_emod_of_dvd _ (Int.dvd_refl _)]
end Go.Proofs.YtnfijnioclcnmaaDoor
