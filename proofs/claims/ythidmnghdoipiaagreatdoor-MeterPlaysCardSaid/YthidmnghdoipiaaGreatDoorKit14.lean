/- A certified evaluator of calls, run by the kernel, with its rules for what is not known: what it tells holds of every program. -/
import Derived.Test.YthidmnghdoipiaaGreatDoorKit12
namespace Go.Ev
open Ieee Go Go.RowKit

theorem cut_even (neg : Bool) (n drop : Nat) : Toward.even.cut neg n drop = n / 2 ^ (min drop (n.log2 + 2)) + (decide (2 ^ (min drop (n.log2 + 2)) < 2 * (n % 2 ^ (min drop (n.log2 + 2)))) || (2 ^ (min drop (n.log2 + 2)) == 2 * (n % 2 ^ (min drop (n.log2 + 2))) && n / 2 ^ (min drop (n.log2 + 2)) % 2 == 1)).toNat := by
  unfold Toward.cut
  simp only [Nat.one_shiftLeft]
theorem cut_zero (neg : Bool) (n : Nat) : Toward.even.cut neg n 0 = n := by
  rw [cut_even]
  simp only [Nat.zero_min, Nat.pow_zero, Nat.div_one, Nat.mod_one]
  simp
/-- The rung of a whole number. -/
def rungI (mag : Nat) : Nat := (mag.log2 + 1022) * 2 ^ 52 + (if mag.log2 ≤ 52 then mag * 2 ^ (52 - mag.log2) else Toward.even.cut false mag (mag.log2 - 52))
theorem log_bounds {n : Nat} (h : n ≠ 0) : 2 ^ n.log2 ≤ n ∧ n < 2 ^ (n.log2 + 1) := ⟨Nat.log2_self_le h, Nat.lt_log2_self⟩
theorem kept_bounds {n : Nat} (h : n ≠ 0) : 2 ^ 52 ≤ (if n.log2 ≤ 52 then n * 2 ^ (52 - n.log2) else Toward.even.cut false n (n.log2 - 52)) ∧ (if n.log2 ≤ 52 then n * 2 ^ (52 - n.log2) else Toward.even.cut false n (n.log2 - 52)) ≤ 2 ^ 53 := by
  obtain ⟨h1, h2⟩ := log_bounds h
  by_cases hl : n.log2 ≤ 52
  · rw [if_pos hl]
    have e1 : (2 : Nat) ^ 52 = 2 ^ n.log2 * 2 ^ (52 - n.log2) := by rw [← Nat.pow_add]; congr 1; omega
    have e2 : (2 : Nat) ^ 53 = 2 ^ (n.log2 + 1) * 2 ^ (52 - n.log2) := by rw [← Nat.pow_add]; congr 1; omega
    rw [e1, e2]
    exact ⟨Nat.mul_le_mul_right _ h1, Nat.mul_le_mul_right _ (Nat.le_of_lt h2)⟩
  · rw [if_neg hl, cut_even]
    have em : min (n.log2 - 52) (n.log2 + 2) = n.log2 - 52 := by omega
    rw [em]
    have hp : 0 < (2 : Nat) ^ (n.log2 - 52) := Nat.two_pow_pos _
    have g1 : 2 ^ 52 ≤ n / 2 ^ (n.log2 - 52) := by
      rw [Nat.le_div_iff_mul_le hp, ← Nat.pow_add]
      have : 52 + (n.log2 - 52) = n.log2 := by omega
      rw [this]; exact h1
    have g2 : n / 2 ^ (n.log2 - 52) < 2 ^ 53 := by
      rw [Nat.div_lt_iff_lt_mul hp, ← Nat.pow_add]
      have : 53 + (n.log2 - 52) = n.log2 + 1 := by omega
      rw [this]; exact h2
    have g3 : ∀ b : Bool, b.toNat ≤ 1 := fun b => by cases b <;> decide
    have := g3 (decide (2 ^ (n.log2 - 52) < 2 * (n % 2 ^ (n.log2 - 52))) || (2 ^ (n.log2 - 52) == 2 * (n % 2 ^ (n.log2 - 52)) && n / 2 ^ (n.log2 - 52) % 2 == 1))
    omega
theorem p52 : (2 : Nat) ^ 52 = 4503599627370496 := by decide +kernel
theorem p53 : (2 : Nat) ^ 53 = 9007199254740992 := by decide +kernel
theorem p63 : (2 : Nat) ^ 63 = 9223372036854775808 := by decide +kernel
theorem rung_low {n : Nat} (h : n ≠ 0) : (n.log2 + 1023) * 4503599627370496 ≤ rungI n ∧ rungI n ≤ (n.log2 + 1024) * 4503599627370496 := by
  have hb := kept_bounds h
  rw [p52, p53] at hb
  have e : rungI n = (n.log2 + 1022) * 4503599627370496 + (if n.log2 ≤ 52 then n * 2 ^ (52 - n.log2) else Toward.even.cut false n (n.log2 - 52)) := by unfold rungI; rw [p52]
  rw [e]
  obtain ⟨h1, h2⟩ := hb
  generalize (if n.log2 ≤ 52 then n * 2 ^ (52 - n.log2) else Toward.even.cut false n (n.log2 - 52)) = k at h1 h2
  generalize n.log2 = l
  omega
theorem nearest_int (neg : Bool) {n : Nat} (h : n ≠ 0) (hs : n < 9223372036854775808) : double.nearest neg n 0 = double.word neg (rungI n) := by
  have hlog : n.log2 < 63 := (Nat.log2_lt h).2 (by rw [p63]; exact hs)
  have hr := rung_low h
  have e2 : double.infRung = 9218868437227405312 := by decide +kernel
  have eb : double.binade = 4503599627370496 := by decide +kernel
  have el : double.leastPlace = -1074 := by decide +kernel
  have ef : (double.fractionBits : Int) = 52 := by decide +kernel
  unfold Format.nearest
  rw [if_neg h]
  simp only [el, ef, eb, e2]
  have hmax : max ((0 : Int) + (n.log2 : Int) - 52) (-1074) = (n.log2 : Int) - 52 := by omega
  simp only [hmax]
  have hk : Toward.even.cut neg (n <<< (0 - ((n.log2 : Int) - 52)).toNat) (((n.log2 : Int) - 52) - 0).toNat = (if n.log2 ≤ 52 then n * 2 ^ (52 - n.log2) else Toward.even.cut false n (n.log2 - 52)) := by
    by_cases hl : n.log2 ≤ 52
    · rw [if_pos hl]
      have q1 : (0 - ((n.log2 : Int) - 52)).toNat = 52 - n.log2 := by omega
      have q2 : (((n.log2 : Int) - 52) - 0).toNat = 0 := by omega
      rw [q1, q2, cut_zero, Nat.shiftLeft_eq]
    · rw [if_neg hl]
      have q1 : (0 - ((n.log2 : Int) - 52)).toNat = 0 := by omega
      have q2 : (((n.log2 : Int) - 52) - 0).toNat = n.log2 - 52 := by omega
      rw [q1, q2, Nat.shiftLeft_zero, cut_even, cut_even]
  rw [hk]
  have q3 : ((n.log2 : Int) - 52 - -1074).toNat = n.log2 + 1022 := by omega
  rw [q3]
  have e : rungI n = (n.log2 + 1022) * 4503599627370496 + (if n.log2 ≤ 52 then n * 2 ^ (52 - n.log2) else Toward.even.cut false n (n.log2 - 52)) := by unfold rungI; rw [p52]
  rw [← e, Nat.min_eq_left (by omega)]
theorem read_rung (neg : Bool) {r : Nat} (h0 : 4503599627370496 ≤ r) (h1 : r < 9218868437227405312) : double.read (double.word neg r) = .number neg (4503599627370496 + r % 4503599627370496) (-1074 + ((r / 4503599627370496 - 1 : Nat) : Int)) := by
  have e1 : double.signWeight = 9223372036854775808 := by decide +kernel
  have e2 : double.infRung = 9218868437227405312 := by decide +kernel
  have eb : double.binade = 4503599627370496 := by decide +kernel
  have el : double.leastPlace = -1074 := by decide +kernel
  have hs : (double.word neg r / double.signWeight % 2 == 1) = neg := by
    unfold Format.word
    rw [e1]
    cases neg
    · have : r / 9223372036854775808 % 2 = 0 := by omega
      simp only [Bool.false_eq_true, if_false]
      rw [this]; rfl
    · have : (9223372036854775808 + r) / 9223372036854775808 % 2 = 1 := by omega
      simp only [if_true]
      rw [this]; rfl
  have hr : double.word neg r % double.signWeight = r := by
    unfold Format.word
    rw [e1]
    cases neg
    · simp only [Bool.false_eq_true, if_false]; omega
    · simp only [if_true]; omega
  unfold Format.read
  simp only [hs, hr, e2, eb, el]
  rw [if_neg (by omega), if_pos h1]
theorem ofInt_word {n : Nat} (h : n ≠ 0) (hs : n < 9223372036854775808) : floatOfInt .f64 (n : Int) = double.word false (rungI n) := by
  have hd : decide ((n : Int) < 0) = false := by simp
  show double.nearest (decide ((n : Int) < 0)) (n : Int).natAbs 0 = _
  rw [hd, Int.natAbs_natCast, nearest_int false h hs]
theorem ofInt_read {n : Nat} (h : n ≠ 0) (hs : n < 9223372036854775808) : double.read (floatOfInt .f64 (n : Int)) = .number false (4503599627370496 + rungI n % 4503599627370496) (-1074 + ((rungI n / 4503599627370496 - 1 : Nat) : Int)) := by
  have hlog : n.log2 < 63 := (Nat.log2_lt h).2 (by rw [p63]; exact hs)
  have hr := rung_low h
  rw [ofInt_word h hs]
  exact read_rung false (by omega) (by omega)
theorem ofInt_zero : floatOfInt .f64 0 = 0 := by decide +kernel
theorem product_num {x y d : Datum} (h : x.product y = some d) : (∃ s m e, d = .number s m e) ∨ ∃ s, d = .infinity s := by
  unfold Datum.product at h
  split at h <;> first | (cases h; done) | skip
  · cases h; exact .inr ⟨_, rfl⟩
  · split at h
    · cases h
    · cases h; exact .inr ⟨_, rfl⟩
  · split at h
    · cases h
    · cases h; exact .inr ⟨_, rfl⟩
  · cases h; exact .inl ⟨_, _, _, rfl⟩
theorem write_num {d : Datum} (h : (∃ s m e, d = .number s m e) ∨ ∃ s, d = .infinity s) : (∃ s m e, double.read (double.write d) = .number s m e) ∨ ∃ s, double.read (double.write d) = .infinity s := by
  rcases h with ⟨s, m, e, rfl⟩ | ⟨s, rfl⟩
  · obtain ⟨rung, hr, hle, _⟩ := nearest_word s m e
    have e1 : double.write (.number s m e) = double.word s rung := hr
    rw [e1]
    rcases read_word s rung hle with ⟨m, e, h⟩ | ⟨h, _⟩
    · exact .inl ⟨_, _, _, h⟩
    · exact .inr ⟨_, h⟩
  · have e1 : double.write (.infinity s) = double.word s double.infRung := rfl
    rw [e1]
    rcases read_word s double.infRung (Nat.le_refl _) with ⟨m, e, h⟩ | ⟨h, _⟩
    · exact .inl ⟨_, _, _, h⟩
    · exact .inr ⟨_, h⟩
/-- A product over a whole number that is not nought is a number. -/
theorem mul_quo {a k : Nat} (h : (floatBits .mul .f64 a k).isSome = true) {n : Nat} (hn : n ≠ 0) (hs : n < 9223372036854775808) : (floatBits .quo .f64 (valF .mul a k) (floatOfInt .f64 (n : Int))).isSome = true := by
  have e0 : FloatKind.f64.format = double := rfl
  have hv : (∃ s m e, double.read (valF .mul a k) = .number s m e) ∨ ∃ s, double.read (valF .mul a k) = .infinity s := by
    unfold valF
    unfold floatBits at h ⊢
    simp only [Format.mul, e0] at h ⊢
    cases hp : (double.read a).product (double.read k) with
    | none => rw [hp] at h; cases h
    | some d => exact write_num (product_num hp)
  unfold floatBits
  simp only [Format.div, e0, ofInt_read hn hs]
  rcases hv with ⟨s, m, e, h⟩ | ⟨s, h⟩
  · rw [h]
    unfold Datum.quotient
    simp only []
    rw [if_neg (by omega)]
    rfl
  · rw [h]; rfl
theorem quo_num {a b : Nat} (h : (floatBits .quo .f64 a b).isSome = true) : nanB (valF .quo a b) = false := by
  have e0 : FloatKind.f64.format = double := rfl
  have hq : ∀ {x y d : Datum} {k : Nat}, x.quotient k y = some d → (∃ s m e, d = .number s m e) ∨ ∃ s, d = .infinity s := by
    intro x y d k h
    unfold Datum.quotient at h
    split at h <;> first | (cases h; done) | skip
    · cases h; exact .inr ⟨_, rfl⟩
    · cases h; exact .inl ⟨_, _, _, rfl⟩
    · split at h
      · split at h
        · cases h
        · cases h; exact .inr ⟨_, rfl⟩
      · cases h; exact .inl ⟨_, _, _, rfl⟩
  cases hn : nanB (valF .quo a b) with
  | false => rfl
  | true =>
    obtain ⟨s, t, hr⟩ := nan_read hn
    rw [e0] at hr
    unfold valF at hr
    unfold floatBits at h hr
    simp only [Format.div, e0] at h hr
    cases hp : (double.read a).quotient (double.fractionBits + 2) (double.read b) with
    | none => rw [hp] at h; cases h
    | some d =>
      rw [hp] at hr
      rcases write_num (hq hp) with ⟨s1, m1, e1, h1⟩ | ⟨s1, h1⟩
      · have h2 : double.read (double.write d) = .nan s t := hr
        rw [h1] at h2; cases h2
      · have h2 : double.read (double.write d) = .nan s t := hr
        rw [h1] at h2; cases h2
end Go.Ev
