/- A certified evaluator of calls, run by the kernel, with its rules for what is not known: what it tells holds of every program. -/
import Derived.Test.YthidmnghdoipiaaDoorKit12
namespace Go.Ev
open Ieee Go Go.RowKit

theorem up_mono {n m g : Nat} (h : n ≤ m) : n / g + (decide (g < 2 * (n % g)) || (g == 2 * (n % g) && n / g % 2 == 1)).toNat ≤ m / g + (decide (g < 2 * (m % g)) || (g == 2 * (m % g) && m / g % 2 == 1)).toNat := by
  have hd : n / g ≤ m / g := Nat.div_le_div_right h
  have t1 : ∀ b : Bool, b.toNat ≤ 1 := fun b => by cases b <;> decide
  rcases Nat.eq_or_lt_of_le hd with he | hl
  · have h1 := Nat.div_add_mod n g
    have h2 := Nat.div_add_mod m g
    rw [he] at h1
    have hm : n % g ≤ m % g := by omega
    rw [he]
    cases hc : (decide (g < 2 * (n % g)) || (g == 2 * (n % g) && m / g % 2 == 1)) with
    | false => show m / g + 0 ≤ _; omega
    | true =>
      have : (decide (g < 2 * (m % g)) || (g == 2 * (m % g) && m / g % 2 == 1)) = true := by
        simp only [Bool.or_eq_true, Bool.and_eq_true, decide_eq_true_eq, beq_iff_eq] at hc ⊢
        omega
      rw [this]
      exact Nat.le_refl _
  · have := t1 (decide (g < 2 * (n % g)) || (g == 2 * (n % g) && n / g % 2 == 1))
    omega
theorem log_mono {a b : Nat} (ha : a ≠ 0) (h : a ≤ b) : a.log2 ≤ b.log2 := by
  have h1 := Nat.log2_self_le ha
  have h2 : b < 2 ^ (b.log2 + 1) := Nat.lt_log2_self
  have h3 : 2 ^ a.log2 < 2 ^ (b.log2 + 1) := by omega
  have := (Nat.pow_lt_pow_iff_right (by decide : 1 < 2)).1 h3
  omega
theorem rungI_mono {a b : Nat} (ha : a ≠ 0) (h : a ≤ b) : rungI a ≤ rungI b := by
  have hl := log_mono ha h
  have ra := rung_low ha
  have rb := rung_low (n := b) (by omega)
  rcases Nat.eq_or_lt_of_le hl with he | hlt
  · unfold rungI
    rw [he]
    refine Nat.add_le_add_left ?_ _
    by_cases hc : b.log2 ≤ 52
    · rw [if_pos hc, if_pos hc]; exact Nat.mul_le_mul_right _ h
    · rw [if_neg hc, if_neg hc, cut_even, cut_even, he]
      exact up_mono h
  · have : (a.log2 + 1024) * 4503599627370496 ≤ (b.log2 + 1023) * 4503599627370496 := Nat.mul_le_mul_right _ (by omega)
    omega
theorem nearest_le {M k : Nat} (h53 : 53 ≤ M.log2) (hle : M ≤ 2 ^ k) (hk : k ≤ 300) : ∃ r, r ≤ 4607182418800017408 ∧ double.nearest false M (-(k : Int)) = double.word false r := by
  have hM : M ≠ 0 := by
    intro h
    rw [h, show Nat.log2 0 = 0 by decide +kernel] at h53
    omega
  obtain ⟨l1, l2⟩ := log_bounds hM
  have hlk : M.log2 ≤ k := by
    have h3 : 2 ^ M.log2 ≤ 2 ^ k := by omega
    exact (Nat.pow_le_pow_iff_right (by decide : 1 < 2)).1 h3
  have hb := kept_bounds hM
  rw [if_neg (by omega), p52, p53] at hb
  have e2 : double.infRung = 9218868437227405312 := by decide +kernel
  have eb : double.binade = 4503599627370496 := by decide +kernel
  have el : double.leastPlace = -1074 := by decide +kernel
  have ef : (double.fractionBits : Int) = 52 := by decide +kernel
  have hval : double.nearest false M (-(k : Int)) = double.word false (min ((M.log2 + 1022 - k) * 4503599627370496 + Toward.even.cut false M (M.log2 - 52)) 9218868437227405312) := by
    unfold Format.nearest
    rw [if_neg hM]
    simp only [el, ef, eb, e2]
    have hmax : max (-(k : Int) + (M.log2 : Int) - 52) (-1074) = (M.log2 : Int) - k - 52 := by omega
    simp only [hmax]
    have q1 : (-(k : Int) - ((M.log2 : Int) - k - 52)).toNat = 0 := by omega
    have q2 : (((M.log2 : Int) - k - 52) - -(k : Int)).toNat = M.log2 - 52 := by omega
    have q3 : ((M.log2 : Int) - k - 52 - -1074).toNat = M.log2 + 1022 - k := by omega
    rw [q1, q2, q3, Nat.shiftLeft_zero]
  have key : (M.log2 + 1022 - k) * 4503599627370496 + Toward.even.cut false M (M.log2 - 52) ≤ 4607182418800017408 := by
    rcases Nat.eq_or_lt_of_le hlk with he | hlt
    · have hMk : M = 2 ^ k := by rw [he] at l1; omega
      have hcut : Toward.even.cut false M (M.log2 - 52) = 4503599627370496 := by
        rw [cut_even, he]
        have em : min (k - 52) (k + 2) = k - 52 := by omega
        rw [em, hMk]
        have hp : 0 < (2 : Nat) ^ (k - 52) := Nat.two_pow_pos _
        have e : (2 : Nat) ^ k = 2 ^ 52 * 2 ^ (k - 52) := by rw [← Nat.pow_add]; congr 1; omega
        rw [e, Nat.mul_mod_left, Nat.mul_div_cancel _ hp]
        have f1 : decide (2 ^ (k - 52) < 2 * 0) = false := by simp
        have f2 : (2 ^ (k - 52) == 2 * 0) = false := by
          rw [beq_eq_false_iff_ne]
          omega
        rw [f1, f2, p52]
        rfl
      rw [hcut, he]
      omega
    · generalize Toward.even.cut false M (M.log2 - 52) = kept at hb
      generalize M.log2 = l at *
      omega
  exact ⟨_, Nat.le_trans (Nat.min_le_left _ _) key, hval⟩
theorem log_52 {m : Nat} (h0 : 4503599627370496 ≤ m) (h1 : m < 9007199254740992) : m.log2 = 52 := by
  have hm : m ≠ 0 := by omega
  rw [Nat.log2_eq_iff hm, p52, p53]
  exact ⟨h0, h1⟩
theorem quo_core {m n u v : Nat} (m0 : 4503599627370496 ≤ m) (m1 : m < 9007199254740992) (n0 : 4503599627370496 ≤ n) (n1 : n < 9007199254740992) (huv : u ≤ v) (hmn : u = v → m ≤ n) (hv : v ≤ u + 64) :
    ∃ r, r ≤ 4607182418800017408 ∧ ((Datum.number false m (-1074 + (u : Int))).quotient 54 (.number false n (-1074 + (v : Int)))).map double.write = some (double.word false r) := by
  unfold Datum.quotient
  simp only []
  rw [if_neg (by omega), log_52 m0 m1, log_52 n0 n1]
  simp only [Nat.shiftLeft_eq]
  have e54 : (2 : Nat) ^ (54 + 52 - 52) = 18014398509481984 := by decide +kernel
  rw [e54]
  have q0 : 9007199254740992 ≤ m * 18014398509481984 / n := by
    rw [Nat.le_div_iff_mul_le (by omega)]
    omega
  have qB : m * 18014398509481984 / n < 36028797018963968 := by
    rw [Nat.div_lt_iff_lt_mul (by omega)]
    omega
  have qM : 2 * (m * 18014398509481984 / n) + (m * 18014398509481984 % n != 0).toNat ≤ 2 ^ (55 + (v - u)) := by
    have t1 : ∀ b : Bool, b.toNat ≤ 1 := fun b => by cases b <;> decide
    have := t1 (m * 18014398509481984 % n != 0)
    rcases Nat.eq_or_lt_of_le huv with he | hlt
    · have hm := hmn he
      have hp : (2 : Nat) ^ (55 + (v - u)) = 36028797018963968 := by rw [he, Nat.sub_self]
      rw [hp]
      rcases Nat.eq_or_lt_of_le hm with h1 | h1
      · subst h1
        rw [Nat.mul_div_cancel_left _ (by omega), Nat.mul_mod_right]
        decide
      · have : m * 18014398509481984 / n < 18014398509481984 := by
          rw [Nat.div_lt_iff_lt_mul (by omega)]
          omega
        omega
    · have hp : (2 : Nat) ^ 56 ≤ 2 ^ (55 + (v - u)) := Nat.pow_le_pow_right (by decide) (by omega)
      have e56 : (2 : Nat) ^ 56 = 72057594037927936 := by decide +kernel
      omega
  generalize hMM : 2 * (m * 18014398509481984 / n) + (m * 18014398509481984 % n != 0).toNat = M at qM
  have hM : 18014398509481984 ≤ M := by omega
  have h53 : 53 ≤ M.log2 := by
    rw [Nat.le_log2 (by omega), p53]
    omega
  obtain ⟨r, hr, hn⟩ := nearest_le h53 qM (by omega)
  refine ⟨r, hr, ?_⟩
  have hpl : (-1074 + (u : Int)) - (-1074 + (v : Int)) - ((54 + 52 - 52 : Nat) : Int) - 1 = -((55 + (v - u) : Nat) : Int) := by omega
  show some (double.nearest (false ^^ false) M _) = _
  rw [show (-1074 + (u : Int)) - (-1074 + (v : Int)) - ((54 + 52 - 52 : Nat) : Int) - 1 = -((55 + (v - u) : Nat) : Int) from hpl]
  show some (double.nearest false M _) = _
  rw [hn]
/-- A whole number over one that is not less. -/
theorem quo_le {a b : Nat} (ha : a ≠ 0) (h : a ≤ b) (hs : b < 9223372036854775808) : ∃ r, r ≤ 4607182418800017408 ∧ floatBits .quo .f64 (floatOfInt .f64 (a : Int)) (floatOfInt .f64 (b : Int)) = some (double.word false r) := by
  have e0 : FloatKind.f64.format = double := rfl
  have hb0 : b ≠ 0 := by omega
  have hm := rungI_mono ha h
  have la := rung_low ha
  have lb := rung_low hb0
  have hlog : b.log2 < 63 := (Nat.log2_lt hb0).2 (by rw [p63]; exact hs)
  have ef : double.fractionBits + 2 = 54 := by decide +kernel
  unfold floatBits
  simp only [Format.div, e0, ofInt_read ha (by omega), ofInt_read hb0 hs, ef]
  exact quo_core (by omega) (by omega) (by omega) (by omega) (by omega) (fun he => by omega) (by omega)
/-- Where a word that is not above 1 stands. -/
theorem word_le {r : Nat} (h : r ≤ 4607182418800017408) : nanB (double.word false r) = false ∧ (cmpF (double.word false r) 0 == some .lt) = false ∧ (cmpF (double.word false r) 4607182418800017408 == some .gt) = false := by
  have hw : double.word false r = r := rfl
  rw [hw]
  have hr : ∀ x : Nat, x ≤ 4607182418800017408 → x % 2 ^ 63 = x ∧ negW x = false ∧ x % 2 ^ 63 < 2047 * 2 ^ 52 := fun x hx => by
    have h1 : x % 2 ^ 63 = x := Nat.mod_eq_of_lt (by omega)
    refine ⟨h1, ?_, by rw [h1]; omega⟩
    unfold negW
    have : x / 2 ^ 63 % 2 = 0 := by omega
    rw [this]; rfl
  have hc : ∀ (M : Int) (x : Nat), x ≤ 4607182418800017408 → count (-1074) M (rd64 x) = (gr x : Int) ∧ ∃ m i, rd64 x = .number false m i ∧ (-1074 : Int) ≤ i := fun M x hx => by
    obtain ⟨h1, h2, h3⟩ := hr x hx
    obtain ⟨c1, m, i, c2⟩ := count_rung (base := -1074) (M := M) (Int.le_refl _) x h3
    rw [h1, h2] at c1
    rw [h2] at c2
    refine ⟨by rw [c1, signed_mul]; simp, m, i, c2, ?_⟩
    rw [rd64_eq, h1] at c2
    split at c2
    · simp only [Datum.number.injEq] at c2
      omega
    · split at c2
      · simp only [Datum.number.injEq] at c2
        omega
      · split at c2 <;> cases c2
  have ho : ∀ x y : Nat, x ≤ 4607182418800017408 → y ≤ 4607182418800017408 → cmpF x y = some (compare (gr x : Int) (gr y : Int)) := fun x y hx hy => by
    obtain ⟨c1, m1, i1, r1, p1⟩ := hc ((gr x : Int) + (gr y : Int) + 1) x hx
    obtain ⟨c2, m2, i2, r2, p2⟩ := hc ((gr x : Int) + (gr y : Int) + 1) y hy
    rw [cmpF_eq]
    have := order_count (base := -1074) (M := (gr x : Int) + (gr y : Int) + 1) (x := rd64 x) (y := rd64 y) (by rw [r1]; rfl) (by rw [r2]; rfl) (by rw [r1]; exact p1) (by rw [r2]; exact p2)
      (fun _ _ _ _ => by rw [c1]; omega) (fun _ _ _ _ => by rw [c2]; omega) (by omega)
    rw [c1, c2] at this
    exact this
  have hg : gr r ≤ gr 4607182418800017408 := by
    rcases Nat.eq_or_lt_of_le h with h1 | h1
    · rw [h1]; exact Nat.le_refl _
    · exact Nat.le_of_lt (gr_lt h1)
  refine ⟨?_, ?_, ?_⟩
  · unfold nanB
    rw [ho r r h h, compare_eq.2 rfl]
    rfl
  · rw [ho r 0 h (by omega)]
    rw [beq_eq_false_iff_ne]
    intro hh
    have := compare_lt.1 (Option.some.inj hh)
    have g0 : gr 0 = 0 := by decide +kernel
    rw [g0] at this
    omega
  · rw [ho r _ h (Nat.le_refl _)]
    rw [beq_eq_false_iff_ne]
    intro hh
    have := compare_gt.1 (Option.some.inj hh)
    omega
/-- A word below nought. -/
theorem word_neg {r : Nat} (h : r ≤ double.infRung) : nanB (double.word true r) = false ∧ (cmpF (double.word true r) 4607182418800017408 == some .gt) = false := by
  have h1 : double.read 4607182418800017408 = .number false 4503599627370496 (-52) := by decide +kernel
  have hrd : (∃ m e, double.read (double.word true r) = .number true m e) ∨ double.read (double.word true r) = .infinity true := by
    rcases read_word true r h with h | ⟨h, _⟩
    · exact .inl h
    · exact .inr h
  refine ⟨?_, ?_⟩
  · rw [nanB_eq]
    show (double.read (double.word true r)).isNaN = false
    rcases hrd with ⟨m, e, h⟩ | h <;> rw [h] <;> rfl
  · show ((double.read (double.word true r)).order (double.read 4607182418800017408) == some .gt) = false
    rw [h1]
    rcases hrd with ⟨m, e, h⟩ | h
    · rw [h]
      unfold Datum.order
      simp only []
      rw [beq_eq_false_iff_ne]
      intro hh
      have := compare_gt.1 (Option.some.inj hh)
      rw [signed_mul, signed_mul] at this
      simp only [if_true, Bool.false_eq_true, if_false] at this
      generalize m * 2 ^ (e - min e (-52)).toNat = z1 at this
      generalize 4503599627370496 * 2 ^ (-52 - min e (-52)).toNat = z2 at this
      omega
    · rw [h]; rfl
theorem ofInt_neg {d : Nat} (hd : d ≠ 0) (hs : d < 9223372036854775808) : ∃ m i, m ≠ 0 ∧ double.read (floatOfInt .f64 (-(d : Int))) = .number true m i := by
  have hlog : d.log2 < 63 := (Nat.log2_lt hd).2 (by rw [p63]; exact hs)
  have hr := rung_low hd
  have h1 : decide (-(d : Int) < 0) = true := by simp; omega
  have e : floatOfInt .f64 (-(d : Int)) = double.word true (rungI d) := by
    show double.nearest (decide (-(d : Int) < 0)) (-(d : Int)).natAbs 0 = _
    rw [h1, Int.natAbs_neg, Int.natAbs_natCast, nearest_int true hd hs]
  rw [e, read_rung true (by omega) (by omega)]
  exact ⟨_, _, by omega, rfl⟩
/-- Less than nought over a whole number. -/
theorem quo_neg {d b : Nat} (hd : d ≠ 0) (hs : d < 9223372036854775808) (hb : b < 9223372036854775808) : ∃ r, r ≤ double.infRung ∧ floatBits .quo .f64 (floatOfInt .f64 (-(d : Int))) (floatOfInt .f64 (b : Int)) = some (double.word true r) := by
  have e0 : FloatKind.f64.format = double := rfl
  obtain ⟨m, i, hm, hr⟩ := ofInt_neg hd hs
  unfold floatBits
  simp only [Format.div, e0, hr]
  by_cases hb0 : b = 0
  · subst hb0
    have hz : double.read (floatOfInt .f64 ((0 : Nat) : Int)) = .number false 0 (-1074) := by
      rw [show ((0 : Nat) : Int) = 0 from rfl, ofInt_zero]
      decide +kernel
    rw [hz]
    unfold Datum.quotient
    simp only [if_true, if_neg hm]
    exact ⟨double.infRung, Nat.le_refl _, rfl⟩
  · rw [ofInt_read hb0 hb]
    unfold Datum.quotient
    simp only []
    rw [if_neg (by omega)]
    obtain ⟨r, h1, h2, _⟩ := nearest_word (true ^^ false) (2 * ((m <<< (double.fractionBits + 2 + (4503599627370496 + rungI b % 4503599627370496).log2 - m.log2)) / (4503599627370496 + rungI b % 4503599627370496)) + ((m <<< (double.fractionBits + 2 + (4503599627370496 + rungI b % 4503599627370496).log2 - m.log2)) % (4503599627370496 + rungI b % 4503599627370496) != 0).toNat) (i - (-1074 + ((rungI b / 4503599627370496 - 1 : Nat) : Int)) - ((double.fractionBits + 2 + (4503599627370496 + rungI b % 4503599627370496).log2 - m.log2 : Nat) : Int) - 1)
    exact ⟨r, h2, congrArg some h1⟩
end Go.Ev
