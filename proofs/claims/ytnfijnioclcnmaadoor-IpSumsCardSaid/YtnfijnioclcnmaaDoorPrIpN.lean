/- IP: a sum behind what it sums: the law's rows, its loop. -/
import Derived.Test.YtnfijnioclcnmaaDoorPrIpM
namespace Go.Proofs.YtnfijnioclcnmaaDoor
open Go Go.RowKit Go.Ev

/-! ### the rows -/

section
variable {cs : List Value} {n P : Nat} {x : Int} (hb : Bytes cs 0 n) (hP : n = 2 * P) (h1 : 1 ≤ P)
def ixN (P : Nat) (x : Int) (i : Nat) : Nat := (i + (x % (P : Int)).toNat) % P
theorem take_all {l : List Value} {k : Nat} (h : l.length = k) : takeL l 0 k = l := by
  unfold takeL
  rw [List.drop_zero, ← h, List.take_length]
theorem dRow_len : ∀ k, (dRow cs 0 (P : Int) x k).length = 2 * k
  | 0 => rfl
  | 1 => rfl
  | k + 2 => by
    have ih := dRow_len (k + 1)
    show (takeL (dRow cs 0 P x (k + 1)) 0 (2 * (k + 1)) ++ takeL (pairL cs 0 (idxV P x ((k + 1 : Nat) : Int))) 0 2).length = _
    rw [List.length_append, len_takeL (by omega), len_takeL (by simp [pairL])]
    omega
theorem dRow_succ (k : Nat) : dRow cs 0 (P : Int) x (k + 1) = dRow cs 0 (P : Int) x k ++ pairL cs 0 (idxV P x (k : Int)) := by
  cases k with
  | zero => rfl
  | succ k =>
    show takeL (dRow cs 0 P x (k + 1)) 0 (2 * (k + 1)) ++ takeL (pairL cs 0 (idxV P x ((k + 1 : Nat) : Int))) 0 2 = _
    rw [take_all (dRow_len (k + 1)), take_all (l := pairL cs 0 _) (k := 2) rfl]
include hb hP h1
theorem ixN_lt (i : Nat) : ixN P x i < P := by
  have _ := hb
  have _ := hP
  exact Nat.mod_lt _ (by omega)
theorem pair_at (i : Nat) : pairL cs 0 (idxV P x (i : Int)) = [.int .u8 (byteAt cs (2 * ixN P x i)), .int .u8 (byteAt cs (2 * ixN P x i + 1))] := by
  have _ := hb
  have _ := hP
  rw [idxV_eq (by omega) x i]
  show [Value.int .u8 (byteAt cs (0 + (2 * ((ixN P x i : Nat) : Int)).toNat * 1)), Value.int .u8 (byteAt cs (0 + (2 * ((ixN P x i : Nat) : Int) + 1).toNat * 1))] = _
  have e1 : 0 + (2 * ((ixN P x i : Nat) : Int)).toNat * 1 = 2 * ixN P x i := by omega
  have e2 : 0 + (2 * ((ixN P x i : Nat) : Int) + 1).toNat * 1 = 2 * ixN P x i + 1 := by omega
  rw [e1, e2]
theorem dRow_at : ∀ k i, i < k → nth (dRow cs 0 (P : Int) x k) (2 * i) = some (.int .u8 (byteAt cs (2 * ixN P x i))) ∧ nth (dRow cs 0 (P : Int) x k) (2 * i + 1) = some (.int .u8 (byteAt cs (2 * ixN P x i + 1)))
  | 0, i, h => absurd h (Nat.not_lt_zero _)
  | k + 1, i, h => by
    have hl := dRow_len (cs := cs) (P := P) (x := x) k
    rw [dRow_succ k]
    by_cases hi : i < k
    · obtain ⟨a, b⟩ := dRow_at k i hi
      exact ⟨by rw [nth_app (by omega)]; exact a, by rw [nth_app (by omega)]; exact b⟩
    · obtain rfl : i = k := by omega
      have hp := pair_at hb hP h1 (x := x) i
      have a := nth_app2 (a := dRow cs 0 (P : Int) x i) (b := pairL cs 0 (idxV P x (i : Int))) (i := 0)
      have b := nth_app2 (a := dRow cs 0 (P : Int) x i) (b := pairL cs 0 (idxV P x (i : Int))) (i := 1)
      rw [hl] at a b
      rw [hp] at a b ⊢
      exact ⟨a, b⟩
theorem dRow_bytes (k : Nat) (hk : k ≤ P) : Bytes (dRow cs 0 (P : Int) x k) 0 (2 * k) := by
  have hs := hb.small
  have key : ∀ i, i < 2 * k → ∃ y, nth (dRow cs 0 (P : Int) x k) i = some (.int .u8 y) ∧ 0 ≤ y ∧ y < 256 := fun i hi => by
    have hx := ixN_lt hb hP h1 (x := x) (i / 2)
    obtain ⟨a, b⟩ := dRow_at hb hP h1 (x := x) k (i / 2) (by omega)
    rcases Nat.mod_two_eq_zero_or_one i with h | h
    · have e : i = 2 * (i / 2) := by omega
      obtain ⟨_, q1, q2⟩ := bB hb (2 * ixN P x (i / 2)) (by omega)
      exact ⟨_, by rw [e]; rw [show 2 * (i / 2) / 2 = i / 2 by omega] at *; exact a, q1, q2⟩
    · have e : i = 2 * (i / 2) + 1 := by omega
      obtain ⟨_, q1, q2⟩ := bB hb (2 * ixN P x (i / 2) + 1) (by omega)
      exact ⟨_, by rw [e]; rw [show (2 * (i / 2) + 1) / 2 = i / 2 by omega] at *; exact b, q1, q2⟩
  have hflat : ∀ k, flatL (dRow cs 0 (P : Int) x k) = true := by
    intro k
    induction k with
    | zero => rfl
    | succ k ih => rw [dRow_succ k, flatL_append, ih]; rfl
  refine ⟨hflat k, fun i hi => ?_, fun i hi => ?_, fun i hi => ?_, by omega⟩
  · obtain ⟨y, h, _, _⟩ := key i hi
    rw [Nat.zero_add, byteAt_of h]; exact h
  · obtain ⟨y, h, h0, _⟩ := key i hi
    rw [Nat.zero_add, byteAt_of h]; exact h0
  · obtain ⟨y, h, _, h2⟩ := key i hi
    rw [Nat.zero_add, byteAt_of h]; exact h2
theorem dRow_sum : sumV (dRow cs 0 (P : Int) x P) 0 (2 * P) = sumV cs 0 n := by
  have hd := dRow_bytes hb hP h1 (x := x) P (Nat.le_refl P)
  have e1 : sumK (dRow cs 0 (P : Int) x P) 0 P = sumK cs 0 P := by
    rw [sumK_fold hd P (Nat.le_refl _), sumK_fold hb P (by omega)]
    congr 1
    rw [← addUp_round (pairO cs 0) P (x % (P : Int)).toNat (by
      have := Int.emod_nonneg x (show (P : Int) ≠ 0 by omega)
      have := Int.emod_lt_of_pos x (show (0 : Int) < (P : Int) by omega)
      omega)]
    refine addUp_congr P fun i hi => ?_
    obtain ⟨a, b⟩ := dRow_at hb hP h1 (x := x) P i hi
    unfold pairO
    rw [Nat.zero_add, byteAt_of a, byteAt_of b, Nat.zero_add]
    rfl
  unfold sumV
  rw [if_neg (by omega), if_neg (by omega)]
  have h2 : 2 * P / 2 = P := by omega
  have h3 : n / 2 = P := by omega
  rw [h2, h3, e1]
theorem sum_in : 0 ≤ sumV cs 0 n ∧ sumV cs 0 n ≤ 65535 ∧ sumV cs 0 n = 65535 - sumK cs 0 P := by
  have _ := h1
  obtain ⟨s0, s1⟩ := sumK_bounds hb P (by omega)
  have h3 : n / 2 = P := by omega
  have e : sumV cs 0 n = 65535 - sumK cs 0 P := by
    unfold sumV sumOut
    rw [if_neg (by omega), h3]
  omega
theorem cRow_eq : cRow cs 0 n = takeL cs 0 n ++ twoB (sumV cs 0 n) := by
  have _ := h1
  have _ := hP
  have hl := bytes_len hb
  unfold cRow
  rw [take_all (l := takeL cs 0 n) (len_takeL (by omega)), take_all (l := twoB _) (k := 2) rfl]
theorem cRow_bytes (hs2 : n + 2 ≤ 140737488355328) : Bytes (cRow cs 0 n) 0 (n + 2) ∧ sumV (cRow cs 0 n) 0 (n + 2) = 0 := by
  have hl := bytes_len hb
  obtain ⟨s0, s1, s2⟩ := sum_in hb hP h1
  have hlen : (takeL cs 0 n).length = n := len_takeL (by omega)
  have g1 : ∀ i, i < n → nth (cRow cs 0 n) i = nth cs i := fun i hi => by
    rw [cRow_eq hb hP h1, nth_app (by omega), nth_take hi]
  have g2 : nth (cRow cs 0 n) n = some (.int .u8 (sumV cs 0 n / 256)) ∧ nth (cRow cs 0 n) (n + 1) = some (.int .u8 (sumV cs 0 n % 256)) := by
    rw [cRow_eq hb hP h1]
    have a := nth_app2 (a := takeL cs 0 n) (b := twoB (sumV cs 0 n)) (i := 0)
    have b := nth_app2 (a := takeL cs 0 n) (b := twoB (sumV cs 0 n)) (i := 1)
    rw [hlen] at a b
    exact ⟨a, b⟩
  have key : ∀ i, i < n + 2 → ∃ y, nth (cRow cs 0 n) i = some (.int .u8 y) ∧ 0 ≤ y ∧ y < 256 := fun i hi => by
    rcases Nat.lt_or_ge i n with h | h
    · obtain ⟨a, b, c⟩ := bB hb i h
      exact ⟨_, by rw [g1 i h]; exact a, b, c⟩
    · rcases (by omega : i = n ∨ i = n + 1) with rfl | rfl
      · exact ⟨_, g2.1, by omega, by omega⟩
      · exact ⟨_, g2.2, by omega, by omega⟩
  have hB : Bytes (cRow cs 0 n) 0 (n + 2) := by
    refine ⟨?_, fun i hi => ?_, fun i hi => ?_, fun i hi => ?_, hs2⟩
    · rw [cRow_eq hb hP h1, flatL_append, flat_takeL hb.flat]; rfl
    · obtain ⟨y, h, _, _⟩ := key i hi
      rw [Nat.zero_add, byteAt_of h]; exact h
    · obtain ⟨y, h, h0, _⟩ := key i hi
      rw [Nat.zero_add, byteAt_of h]; exact h0
    · obtain ⟨y, h, _, h2⟩ := key i hi
      rw [Nat.zero_add, byteAt_of h]; exact h2
  refine ⟨hB, ?_⟩
  have E : Same6 cs (cRow cs 0 n) n := fun i hi => byteAt_congr (g1 i hi)
  have e1 : sumK (cRow cs 0 n) 0 P = sumK cs 0 P := same_sumK E P (by omega)
  have e2 : twoV (cRow cs 0 n) 0 (2 * (P : Int)) = sumV cs 0 n := by
    rw [twoV_pair, show 2 * P = n by omega, byteAt_of g2.1, byteAt_of g2.2]
    omega
  unfold sumV at *
  rw [if_neg (by omega)] at *
  have h3 : (n + 2) / 2 = P + 1 := by omega
  rw [h3]
  show sumOut (stepS (sumK (cRow cs 0 n) 0 P) (twoV (cRow cs 0 n) 0 (2 * (P : Int)))) = 0
  rw [e1, e2, s2]
  unfold stepS sumOut
  omega
end
end Go.Proofs.YtnfijnioclcnmaaDoor
