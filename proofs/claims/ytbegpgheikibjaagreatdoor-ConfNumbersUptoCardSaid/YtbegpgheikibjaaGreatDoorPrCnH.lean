/- options: the document's hex. -/
import Derived.Test.YtbegpgheikibjaaGreatDoorPrCnC
import Derived.Test.YtbegpgheikibjaaGreatDoorPrBitsU
namespace Go.Proofs.Cn
open Go Go.RowKit Go.Pl Go.Maps Go.Proofs.Sa
def hexD (c : UInt8) : Option Nat :=
  if 48 ≤ c.toNat ∧ c.toNat ≤ 57 then some (c.toNat - 48) else if 97 ≤ c.toNat ∧ c.toNat ≤ 102 then some (c.toNat - 87) else if 65 ≤ c.toNat ∧ c.toNat ≤ 70 then some (c.toNat - 55) else none
def hexV : Nat → List UInt8 → Option Nat
  | n, [] => some n
  | n, c :: r => match hexD c with
    | some k => hexV (n * 16 + k) r
    | none => none
/-- One to four hexadecimal digits. -/
def hexL (l : List UInt8) : Option Nat := if l = [] ∨ 4 < l.length then none else hexV 0 l
theorem hexV_bad {n : Nat} {c : UInt8} {r : List UInt8} (h : hexD c = none) : hexV n (c :: r) = none := by unfold hexV; rw [h]
theorem hexV_step {n k : Nat} {c : UInt8} {r : List UInt8} (h : hexD c = some k) : hexV n (c :: r) = hexV (n * 16 + k) r := by
  conv => lhs; unfold hexV
  rw [h]
theorem hexD_lt {c : UInt8} {k : Nat} (h : hexD c = some k) : k < 16 := by
  unfold hexD at h
  split at h
  · injection h with h; omega
  split at h
  · injection h with h; omega
  split at h
  · injection h with h; omega
  · cases h
/-- What hex answers. -/
def HRet (l : List UInt8) (w : World) (e : Ending) (w' : World) : Prop :=
  ∃ n ok, e = .returned (.tuple #[.int .u64 n, .bool ok]) ∧ (∀ k : Nat, hexL l = some k → n = k ∧ ok = true) ∧ (hexL l = none → ok = false) ∧ Below w.heap.size w w'
theorem HRet.bad {l : List UInt8} {w w' : World} {n : Int} (h : hexL l = none) (hb : Below w.heap.size w w') : HRet l w (.returned (.tuple #[.int .u64 n, .bool false])) w' :=
  ⟨_, _, rfl, fun k e => absurd (h.symm.trans e) (by simp), fun _ => rfl, hb⟩
theorem HRet.good {l : List UInt8} {w w' : World} {k : Nat} (h : hexL l = some k) (hb : Below w.heap.size w w') : HRet l w (.returned (.tuple #[.int .u64 k, .bool true])) w' :=
  ⟨_, _, rfl, fun j e => by rw [h] at e; injection e with e; exact ⟨by rw [e], rfl⟩, fun e => absurd (h.symm.trans e) (by simp), hb⟩
theorem hexD_dec {c : UInt8} (h : 48 ≤ c.toNat ∧ c.toNat ≤ 57) : hexD c = some (c.toNat - 48) := by unfold hexD; rw [if_pos h]
theorem hexD_low {c : UInt8} (h : 97 ≤ c.toNat ∧ c.toNat ≤ 102) : hexD c = some (c.toNat - 87) := by unfold hexD; rw [if_neg (by omega), if_pos h]
theorem hexD_up {c : UInt8} (h : 65 ≤ c.toNat ∧ c.toNat ≤ 70) : hexD c = some (c.toNat - 55) := by unfold hexD; rw [if_neg (by omega), if_neg (by omega), if_pos h]
theorem hexD_no {c : UInt8} (h1 : ¬ (48 ≤ c.toNat ∧ c.toNat ≤ 57)) (h2 : ¬ (97 ≤ c.toNat ∧ c.toNat ≤ 102)) (h3 : ¬ (65 ≤ c.toNat ∧ c.toNat ≤ 70)) : hexD c = none := by unfold hexD; rw [if_neg h1, if_neg h2, if_neg h3]
theorem pow_16 {n i : Nat} (h : n < 16 ^ i) (hi : i ≤ 4) : n < 65536 := Nat.lt_of_lt_of_le h (Nat.pow_le_pow_right (by decide) hi : 16 ^ i ≤ 16 ^ 4)
theorem pow_16n {n i k : Nat} (h : n < 16 ^ i) (hk : k < 16) : n * 16 + k < 16 ^ (i + 1) := by rw [Nat.pow_succ]; omega
set_option maxRecDepth 1000000 in
set_option maxHeartbeats 1600000 in
theorem rhex_any (s : ByteArray) (w : World) : Calls Tryz.prog 54 #[.string s, .int .i64 4] w (HRet s.data.toList w) := by
  have HSZ := Lib.hid (Lib.size_eq s)
  by_cases h0 : s.size < 1
  · have c0 : (s.size : Int) < 1 := by omega
    have HF := Lib.hid (show hexL s.data.toList = none by unfold hexL; rw [if_pos (.inl (List.length_eq_zero_iff.1 (by have := HSZ.out; omega)))])
    go_enter Tryz.func54, Tryz.ntmps54
    go_wp2
    go_ret2
    exact HRet.bad HF.out (Below.refl _ _)
  have c0 : ¬ (s.size : Int) < 1 := by omega
  by_cases h3 : 4 < s.size
  · have c1 : (4 : Int) < (s.size : Int) := by omega
    have HF := Lib.hid (show hexL s.data.toList = none by unfold hexL; rw [if_pos (.inr (by have := HSZ.out; omega))])
    go_enter Tryz.func54, Tryz.ntmps54
    go_wp2
    go_ret2
    exact HRet.bad HF.out (Below.refl _ _)
  have c1 : ¬ (4 : Int) < (s.size : Int) := by omega
  have HE := Lib.hid (show hexL s.data.toList = hexV 0 s.data.toList by
    unfold hexL
    rw [if_neg (fun hh => by
      have := HSZ.out
      rcases hh with hh | hh
      · rw [hh, List.length_nil] at this; omega
      · omega)])
  go_enter Tryz.func54, Tryz.ntmps54
  go_wp2
  go_loopg [6, 7] s.size (fun g s6 s7 wx => ∃ i n : Nat, i + g = s.size ∧ s6 = .int .u64 n ∧ s7 = .int .i64 i ∧ wx = w ∧ Hid (n < 16 ^ i ∧ hexV n (s.data.toList.drop i) = hexV 0 s.data.toList))
  case atStart => exact ⟨0, 0, by omega, rfl, rfl, rfl, Lib.hid ⟨by decide, rfl⟩⟩
  case round =>
    obtain ⟨i, n, hig, rfl, rfl, hwx, HR⟩ := hrel
    have hwx := hwx.symm
    subst hwx
    cases gk with
    | zero =>
      have c2 : ¬ (i : Int) < (s.size : Int) := by omega
      have HF := Lib.hid (show hexL s.data.toList = some n by rw [HE.out, ← HR.out.2, drop_end s i (by omega)]; rfl)
      go_wp2
      go_ret2
      exact HRet.good HF.out (Below.refl _ _)
    | succ g =>
      have hi : i < s.size := by omega
      have c2 : (i : Int) < (s.size : Int) := by omega
      have HD := Lib.hid (drop_at s i hi)
      have HB : Hid (hexV n (s.data.toList.drop i) = none → hexL s.data.toList = none) := Lib.hid fun h => by rw [HE.out, ← HR.out.2]; exact h
      by_cases k1 : 48 ≤ (s[i]).toNat ∧ (s[i]).toNat ≤ 57
      · have c3 : (48 : Int) ≤ ((s[i]).toNat : Int) := by omega
        have c4 : ((s[i]).toNat : Int) ≤ 57 := by omega
        have hn := pow_16 HR.out.1 (show i ≤ 4 by omega)
        have ho := or_hex n ((s[i]).toNat - 48) (((s[i]).toNat : Int) - 48) (by omega) (by omega) (by omega)
        have HN : Hid (n * 16 + ((s[i]).toNat - 48) < 16 ^ (i + 1) ∧ hexV (n * 16 + ((s[i]).toNat - 48)) (s.data.toList.drop (i + 1)) = hexV 0 s.data.toList) := Lib.hid ⟨pow_16n HR.out.1 (by omega), by rw [← HR.out.2, HD.out, hexV_step (hexD_dec k1)]⟩
        clear hn
        go_wp2
        go_roundg g
        case measure => omega
        case rel => exact ⟨i + 1, _, by omega, by first | rfl | (rw [ho]; done), by first | (simp; done) | (simp; omega), rfl, HN⟩
      by_cases k2 : 97 ≤ (s[i]).toNat ∧ (s[i]).toNat ≤ 102
      · have c3 : (48 : Int) ≤ ((s[i]).toNat : Int) := by omega
        have c4 : ¬ ((s[i]).toNat : Int) ≤ 57 := by omega
        have c5 : (97 : Int) ≤ ((s[i]).toNat : Int) := by omega
        have c6 : ((s[i]).toNat : Int) ≤ 102 := by omega
        have hn := pow_16 HR.out.1 (show i ≤ 4 by omega)
        have ho := or_hex n ((s[i]).toNat - 87) (((s[i]).toNat : Int) - 97 + 10) (by omega) (by omega) (by omega)
        have HN : Hid (n * 16 + ((s[i]).toNat - 87) < 16 ^ (i + 1) ∧ hexV (n * 16 + ((s[i]).toNat - 87)) (s.data.toList.drop (i + 1)) = hexV 0 s.data.toList) := Lib.hid ⟨pow_16n HR.out.1 (by omega), by rw [← HR.out.2, HD.out, hexV_step (hexD_low k2)]⟩
        clear hn
        go_wp2
        go_roundg g
        case measure => omega
        case rel => exact ⟨i + 1, _, by omega, by first | rfl | (rw [ho]; done), by first | (simp; done) | (simp; omega), rfl, HN⟩
      by_cases k3 : 65 ≤ (s[i]).toNat ∧ (s[i]).toNat ≤ 70
      · have c3 : (48 : Int) ≤ ((s[i]).toNat : Int) := by omega
        have c4 : ¬ ((s[i]).toNat : Int) ≤ 57 := by omega
        have c5 : ¬ (97 : Int) ≤ ((s[i]).toNat : Int) := by omega
        have c6 : (65 : Int) ≤ ((s[i]).toNat : Int) := by omega
        have c7 : ((s[i]).toNat : Int) ≤ 70 := by omega
        have hn := pow_16 HR.out.1 (show i ≤ 4 by omega)
        have ho := or_hex n ((s[i]).toNat - 55) (((s[i]).toNat : Int) - 65 + 10) (by omega) (by omega) (by omega)
        have HN : Hid (n * 16 + ((s[i]).toNat - 55) < 16 ^ (i + 1) ∧ hexV (n * 16 + ((s[i]).toNat - 55)) (s.data.toList.drop (i + 1)) = hexV 0 s.data.toList) := Lib.hid ⟨pow_16n HR.out.1 (by omega), by rw [← HR.out.2, HD.out, hexV_step (hexD_up k3)]⟩
        clear hn
        go_wp2
        go_roundg g
        case measure => omega
        case rel => exact ⟨i + 1, _, by omega, by first | rfl | (rw [ho]; done), by first | (simp; done) | (simp; omega), rfl, HN⟩
      have HF := Lib.hid (HB.out (by rw [HD.out]; exact hexV_bad (hexD_no k1 k2 k3)))
      rcases (show (s[i]).toNat < 48 ∨ (57 < (s[i]).toNat ∧ (s[i]).toNat < 65) ∨ (70 < (s[i]).toNat ∧ (s[i]).toNat < 97) ∨ 102 < (s[i]).toNat by omega) with k4 | ⟨k4, k5⟩ | ⟨k4, k5⟩ | k4
      · have c3 : ¬ (48 : Int) ≤ ((s[i]).toNat : Int) := by omega
        have c5 : ¬ (97 : Int) ≤ ((s[i]).toNat : Int) := by omega
        have c6 : ¬ (65 : Int) ≤ ((s[i]).toNat : Int) := by omega
        clear k1 k2 k3 k4
        go_wp2
        go_ret2
        exact HRet.bad HF.out (Below.refl _ _)
      · have c3 : (48 : Int) ≤ ((s[i]).toNat : Int) := by omega
        have c4 : ¬ ((s[i]).toNat : Int) ≤ 57 := by omega
        have c5 : ¬ (97 : Int) ≤ ((s[i]).toNat : Int) := by omega
        have c6 : ¬ (65 : Int) ≤ ((s[i]).toNat : Int) := by omega
        clear k1 k2 k3 k4 k5
        go_wp2
        go_ret2
        exact HRet.bad HF.out (Below.refl _ _)
      · have c3 : (48 : Int) ≤ ((s[i]).toNat : Int) := by omega
        have c4 : ¬ ((s[i]).toNat : Int) ≤ 57 := by omega
        have c5 : ¬ (97 : Int) ≤ ((s[i]).toNat : Int) := by omega
        have c6 : (65 : Int) ≤ ((s[i]).toNat : Int) := by omega
        have c7 : ¬ ((s[i]).toNat : Int) ≤ 70 := by omega
        clear k1 k2 k3 k4 k5
        go_wp2
        go_ret2
        exact HRet.bad HF.out (Below.refl _ _)
      · have c3 : (48 : Int) ≤ ((s[i]).toNat : Int) := by omega
        have c4 : ¬ ((s[i]).toNat : Int) ≤ 57 := by omega
        have c5 : (97 : Int) ≤ ((s[i]).toNat : Int) := by omega
        have c6 : ¬ ((s[i]).toNat : Int) ≤ 102 := by omega
        have c7 : (65 : Int) ≤ ((s[i]).toNat : Int) := by omega
        have c8 : ¬ ((s[i]).toNat : Int) ≤ 70 := by omega
        clear k1 k2 k3 k4
        go_wp2
        go_ret2
        exact HRet.bad HF.out (Below.refl _ _)
end Go.Proofs.Cn
