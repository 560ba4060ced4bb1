/- options: digits, either side. -/
import Derived.Test.YtbegpgheikibjaaGreatDoorPrCnA
namespace Go.Proofs.Cn
open Go Go.RowKit Go.Pl Go.Maps Go.Proofs.Sa
def digV : Nat → List UInt8 → Option Nat
  | n, [] => some n
  | n, c :: r => if dig c then digV (n * 10 + (c.toNat - 48)) r else none
/-- One to three digits. -/
def digL (l : List UInt8) : Option Nat := if l = [] ∨ 3 < l.length then none else digV 0 l
theorem drop_at (s : ByteArray) (i : Nat) (h : i < s.size) : s.data.toList.drop i = s[i] :: s.data.toList.drop (i + 1) := by
  rw [List.drop_eq_getElem_cons (by rw [← Lib.size_eq]; exact h)]; rfl
theorem drop_end (s : ByteArray) (i : Nat) (h : s.size ≤ i) : s.data.toList.drop i = [] := List.drop_eq_nil_of_le (by rw [← Lib.size_eq]; exact h)
theorem digV_step {n : Nat} {c : UInt8} {r : List UInt8} (h : dig c = true) : digV n (c :: r) = digV (n * 10 + (c.toNat - 48)) r := by
  conv => lhs; unfold digV
  rw [if_pos h]
theorem digV_bad {n : Nat} {c : UInt8} {r : List UInt8} (h : dig c = false) : digV n (c :: r) = none := by
  unfold digV; rw [if_neg (by simp [h])]
theorem dig_yes {c : UInt8} (h1 : 48 ≤ c.toNat) (h2 : c.toNat ≤ 57) : dig c = true := by unfold dig; simp [h1, h2]
theorem dig_no {c : UInt8} (h : c.toNat < 48 ∨ 57 < c.toNat) : dig c = false := by unfold dig; simp; omega
/-- What digits answers. -/
def DRet (l : List UInt8) (w : World) (e : Ending) (w' : World) : Prop :=
  ∃ n ok, e = .returned (.tuple #[.int .i64 n, .bool ok]) ∧ (∀ k : Nat, digL l = some k → n = k ∧ ok = true) ∧ (digL l = none → ok = false) ∧ w' = w
theorem DRet.bad {l : List UInt8} {w : World} {n : Int} (h : digL l = none) : DRet l w (.returned (.tuple #[.int .i64 n, .bool false])) w :=
  ⟨_, _, rfl, fun k e => absurd (h.symm.trans e) (by simp), fun _ => rfl, rfl⟩
theorem DRet.good {l : List UInt8} {w : World} {k : Nat} (h : digL l = some k) : DRet l w (.returned (.tuple #[.int .i64 k, .bool true])) w :=
  ⟨_, _, rfl, fun j e => by rw [h] at e; injection e with e; exact ⟨by rw [e], rfl⟩, fun e => absurd (h.symm.trans e) (by simp), rfl⟩
theorem wrap_dig (v c : Nat) (hv : v < 1000) (h1 : 48 ≤ c) (h2 : c ≤ 57) : wrap64 (wrap64 ((v : Int) * 10) + ((c : Int) - 48)) = ((v * 10 + (c - 48) : Nat) : Int) := by
  have h : wrap64 ((v : Int) * 10) = (v : Int) * 10 := by unfold wrap64; omega
  rw [h]; unfold wrap64; omega
theorem pow_3 {n i : Nat} (h : n < 10 ^ i) (hi : i ≤ 3) : n < 1000 := Nat.lt_of_lt_of_le h (Nat.pow_le_pow_right (by decide) hi : 10 ^ i ≤ 10 ^ 3)
theorem pow_next {n i c : Nat} (h : n < 10 ^ i) (hc : c ≤ 57) : n * 10 + (c - 48) < 10 ^ (i + 1) := by rw [Nat.pow_succ]; omega
set_option maxRecDepth 1000000 in
set_option maxHeartbeats 1600000 in
theorem digits_any (s : ByteArray) (w : World) : Calls Tryz.prog 51 #[.string s, .int .i64 3] w (DRet s.data.toList w) := by
  have HSZ := Lib.hid (Lib.size_eq s)
  go_enter Tryz.func51, Tryz.ntmps51
  go_wp2
  go_loopg [6, 10] s.size (fun g s6 s10 wx => ∃ i n : Nat, i + g = s.size ∧ i ≤ 3 ∧ s6 = .int .i64 n ∧ s10 = .int .i64 i ∧ wx = w ∧ Hid (n < 10 ^ i ∧ digV n (s.data.toList.drop i) = digV 0 s.data.toList))
  case atStart => exact ⟨0, 0, by omega, by omega, rfl, rfl, rfl, Lib.hid ⟨by decide, rfl⟩⟩
  case round =>
    obtain ⟨i, n, hig, hi3, rfl, rfl, hwx, HR⟩ := hrel
    have hwx := hwx.symm
    subst hwx
    cases gk with
    | zero =>
      have c0 : ¬ (i : Int) < (s.size : Int) := by omega
      by_cases h0 : s.toList = []
      · have HF := Lib.hid (show digL s.data.toList = none by rw [Lib.toList_data] at h0; rw [h0]; rfl)
        go_wp2
        go_ret2
        exact DRet.bad HF.out
      · have ht4 : s.toList.isEmpty = false := by simpa using h0
        have HF := Lib.hid (show digL s.data.toList = some n by
          unfold digL
          rw [if_neg (by
            rw [Lib.toList_data] at h0
            have := HSZ.out
            intro hh
            rcases hh with hh | hh
            · exact h0 hh
            · omega), ← HR.out.2, drop_end s i (by omega)]; rfl)
        go_wp2
        go_ret2
        exact DRet.good HF.out
    | succ g =>
      have hi : i < s.size := by omega
      have c0 : (i : Int) < (s.size : Int) := by omega
      have HD := Lib.hid (drop_at s i hi)
      have HB : Hid (digV n (s.data.toList.drop i) = none → digL s.data.toList = none) := Lib.hid fun h => by
        unfold digL; split
        · rfl
        · rw [← HR.out.2]; exact h
      by_cases h1 : (s[i]).toNat < 48
      · have c1 : ((s[i]).toNat : Int) < 48 := by omega
        have HF := Lib.hid (HB.out (by rw [HD.out]; exact digV_bad (dig_no (.inl h1))))
        go_wp2
        go_ret2
        exact DRet.bad HF.out
      have c1 : ¬ ((s[i]).toNat : Int) < 48 := by omega
      by_cases h2 : 57 < (s[i]).toNat
      · have c2 : (57 : Int) < ((s[i]).toNat : Int) := by omega
        have HF := Lib.hid (HB.out (by rw [HD.out]; exact digV_bad (dig_no (.inr h2))))
        go_wp2
        go_ret2
        exact DRet.bad HF.out
      have c2 : ¬ (57 : Int) < ((s[i]).toNat : Int) := by omega
      by_cases h3 : 3 ≤ i
      · have c3 : (3 : Int) ≤ (i : Int) := by omega
        have HF := Lib.hid (show digL s.data.toList = none by
          unfold digL
          rw [if_pos (.inr (by have := HSZ.out; omega))])
        go_wp2
        go_ret2
        exact DRet.bad HF.out
      · have c3 : ¬ (3 : Int) ≤ (i : Int) := by omega
        have hw := wrap_dig n (s[i]).toNat (pow_3 HR.out.1 hi3) (by omega) (by omega)
        have HN : Hid (n * 10 + ((s[i]).toNat - 48) < 10 ^ (i + 1) ∧ digV (n * 10 + ((s[i]).toNat - 48)) (s.data.toList.drop (i + 1)) = digV 0 s.data.toList) :=
          Lib.hid ⟨pow_next HR.out.1 (by omega), by rw [← HR.out.2, HD.out, digV_step (dig_yes (by omega) (by omega))]⟩
        go_wp2
        go_roundg g
        case measure => omega
        case rel => exact ⟨i + 1, _, by omega, by omega, by first | rfl | (rw [hw]; done), by first | (simp; done) | (simp; omega), rfl, HN⟩
theorem wrap_dig2 (v c : Nat) (hv : v < 1000) (h1 : 48 ≤ c) (h2 : c ≤ 57) : wrap64 (wrap64 (10 * (v : Int)) + ((c : Int) - 48)) = ((v * 10 + (c - 48) : Nat) : Int) := by
  have h : wrap64 (10 * (v : Int)) = 10 * (v : Int) := by unfold wrap64; omega
  rw [h]; unfold wrap64; omega
set_option maxRecDepth 1000000 in
set_option maxHeartbeats 1600000 in
theorem rdigits_any (s : ByteArray) (w : World) : Calls Tryz.prog 52 #[.string s, .int .i64 3] w (DRet s.data.toList w) := by
  have HSZ := Lib.hid (Lib.size_eq s)
  by_cases h0 : s.size < 1
  · have c0 : (s.size : Int) < 1 := by omega
    have HF := Lib.hid (show digL s.data.toList = none by unfold digL; rw [if_pos (.inl (List.length_eq_zero_iff.1 (by have := HSZ.out; omega)))])
    go_enter Tryz.func52, Tryz.ntmps52
    go_wp2
    go_ret2
    exact DRet.bad HF.out
  have c0 : ¬ (s.size : Int) < 1 := by omega
  by_cases h3 : 3 < s.size
  · have c1 : (3 : Int) < (s.size : Int) := by omega
    have HF := Lib.hid (show digL s.data.toList = none by unfold digL; rw [if_pos (.inr (by have := HSZ.out; omega))])
    go_enter Tryz.func52, Tryz.ntmps52
    go_wp2
    go_ret2
    exact DRet.bad HF.out
  have c1 : ¬ (3 : Int) < (s.size : Int) := by omega
  have HE := Lib.hid (show digL s.data.toList = digV 0 s.data.toList by
    unfold digL
    rw [if_neg (fun hh => by
      have := HSZ.out
      rcases hh with hh | hh
      · rw [hh, List.length_nil] at this; omega
      · omega)])
  go_enter Tryz.func52, Tryz.ntmps52
  go_wp2
  go_loopg [6, 7] s.size (fun g s6 s7 wx => ∃ i n : Nat, i + g = s.size ∧ s6 = .int .i64 n ∧ s7 = .int .i64 i ∧ wx = w ∧ Hid (n < 10 ^ i ∧ digV n (s.data.toList.drop i) = digV 0 s.data.toList))
  case atStart => exact ⟨0, 0, by omega, rfl, rfl, rfl, Lib.hid ⟨by decide, rfl⟩⟩
  case round =>
    obtain ⟨i, n, hig, rfl, rfl, hwx, HR⟩ := hrel
    have hwx := hwx.symm
    subst hwx
    cases gk with
    | zero =>
      have c2 : ¬ (i : Int) < (s.size : Int) := by omega
      have HF := Lib.hid (show digL s.data.toList = some n by rw [HE.out, ← HR.out.2, drop_end s i (by omega)]; rfl)
      go_wp2
      go_ret2
      exact DRet.good HF.out
    | succ g =>
      have hi : i < s.size := by omega
      have c2 : (i : Int) < (s.size : Int) := by omega
      have HD := Lib.hid (drop_at s i hi)
      have HB : Hid (digV n (s.data.toList.drop i) = none → digL s.data.toList = none) := Lib.hid fun h => by rw [HE.out, ← HR.out.2]; exact h
      by_cases h1 : (s[i]).toNat < 48
      · have c3 : ((s[i]).toNat : Int) < 48 := by omega
        have HF := Lib.hid (HB.out (by rw [HD.out]; exact digV_bad (dig_no (.inl h1))))
        go_wp2
        go_ret2
        exact DRet.bad HF.out
      have c3 : ¬ ((s[i]).toNat : Int) < 48 := by omega
      by_cases h2 : 57 < (s[i]).toNat
      · have c4 : (57 : Int) < ((s[i]).toNat : Int) := by omega
        have HF := Lib.hid (HB.out (by rw [HD.out]; exact digV_bad (dig_no (.inr h2))))
        go_wp2
        go_ret2
        exact DRet.bad HF.out
      have c4 : ¬ (57 : Int) < ((s[i]).toNat : Int) := by omega
      have hw := wrap_dig2 n (s[i]).toNat (pow_3 HR.out.1 (by omega)) (by omega) (by omega)
      have HN : Hid (n * 10 + ((s[i]).toNat - 48) < 10 ^ (i + 1) ∧ digV (n * 10 + ((s[i]).toNat - 48)) (s.data.toList.drop (i + 1)) = digV 0 s.data.toList) :=
        Lib.hid ⟨pow_next HR.out.1 (by omega), by rw [← HR.out.2, HD.out, digV_step (dig_yes (by omega) (by omega))]⟩
      go_wp2
      go_roundg g
      case measure => omega
      case rel => exact ⟨i + 1, _, by omega, by first | rfl | (rw [hw]; done), by first | (simp; done) | (simp; omega), rfl, HN⟩
end Go.Proofs.Cn
