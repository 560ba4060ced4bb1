/- options: the document's Addr. -/
import Derived.Test.YtbegpgheikibjaaGreatDoorPrCnA
namespace Go.Proofs.Cn
open Go Go.RowKit Go.Pl Go.Maps Go.Proofs.Sa
set_option maxRecDepth 1000000 in
theorem rin_any (a lo hi : Int) (w : World) : Calls Tryz.prog 50 #[.int .i64 a, .int .i64 lo, .int .i64 hi] w fun e w' => e = .returned (.bool (decide (lo ≤ a) && decide (a ≤ hi))) ∧ w' = w := by
  by_cases h1 : lo ≤ a
  · by_cases h2 : a ≤ hi
    · go_enter Tryz.func50, Tryz.ntmps50
      go_wp2
      go_ret
      exact ⟨by simp [show decide (lo ≤ a) = true by simpa using h1, show decide (a ≤ hi) = true by simpa using h2], rfl⟩
    · go_enter Tryz.func50, Tryz.ntmps50
      go_wp2
      go_ret
      exact ⟨by rw [show decide (a ≤ hi) = false by simpa using h2]; simp, rfl⟩
  · go_enter Tryz.func50, Tryz.ntmps50
    go_wp2
    go_ret
    exact ⟨by rw [show decide (lo ≤ a) = false by simpa using h1]; simp, rfl⟩
theorem dd_ne (k : Nat) : dd k ≠ [] := by unfold dd; split <;> (try split) <;> simp
theorem show_ne (n k : Nat) (h : 0 < k) : showA n k ≠ [] := by
  have h0 := dd_ne (numA n 0)
  unfold showA
  split <;> simp_all
set_option maxRecDepth 1000000 in
set_option maxHeartbeats 1600000 in
theorem rtext_any (a : Int) (w : World) (hc : Consts w) : Calls Tryz.prog 22 #[.int .i64 a] w fun e w' => e = .returned (.tuple #[.string (textR a), .int .i64 (textE a)]) ∧ Below w.heap.size w w' := by
  by_cases h0 : a < 0 ∨ 4294967295 < a
  · have hr : textR a = ⟨#[]⟩ ∧ textE a = 150 := by unfold textR textE; rw [if_pos h0, if_pos h0]; exact ⟨rfl, rfl⟩
    have hi0 : (decide ((0 : Int) ≤ a) && decide (a ≤ 4294967295)) = false := by simp; omega
    have HI := Lib.hid (rin_any a 0 4294967295 w)
    rw [hi0] at HI
    go_enter Tryz.func22, Tryz.ntmps22
    go_wp2_with (go_at_call 50; refine HI.out.mono ?_; rintro e w2 ⟨rfl, rfl⟩)
    go_ret2
    exact ⟨by simp [hr.1, hr.2], Below.refl _ _⟩
  obtain ⟨n, rfl⟩ : ∃ n : Nat, a = n := ⟨a.toNat, by omega⟩
  have hr : textR n = ⟨(showA n 4).toArray⟩ ∧ textE n = 0 := by
    unfold textR textE
    rw [if_neg h0, if_neg h0, show_all n (by omega)]
    exact ⟨rfl, rfl⟩
  have HRR := Lib.hid hr
  have hi1 : (decide ((0 : Int) ≤ (n : Int)) && decide ((n : Int) ≤ 4294967295)) = true := by simp; omega
  have HI := Lib.hid (rin_any n 0 4294967295 w)
  rw [hi1] at HI
  have hn : n ≤ 4294967295 := by omega
  have HC := Lib.hid hc
  clear hc hi1 hr h0
  go_enter Tryz.func22, Tryz.ntmps22
  go_wp2_with (go_at_call 50; refine HI.out.mono ?_; rintro e w2 ⟨rfl, hw2⟩; have hw2 := hw2.symm; subst hw2)
  go_loopg [4, 5] 4 (fun g s4 s5 wx => ∃ k : Nat, k + g = 4 ∧ s5 = .int .i64 (3 - (k : Int)) ∧ s4 = .string ⟨(showA n k).toArray⟩ ∧ Hid (Below w.heap.size w wx))
  case atStart => exact ⟨0, by omega, rfl, rfl, Below.refl _ _⟩
  case round =>
    obtain ⟨k, hkg, rfl, rfl, HR⟩ := hrel
    cases gk with
    | zero =>
      obtain rfl : k = 4 := by omega
      have c0 : ¬ (0 : Int) ≤ 3 - ((4 : Nat) : Int) := by omega
      go_wp2
      go_ret2
      exact ⟨by rw [HRR.out.1, HRR.out.2]; simp, HR.out⟩
    | succ g =>
      have HF := Lib.hid (format_any n k wr (HC.out.kept HR.out))
      have hb := num_bits n k hn
      have hl1 := show_len n k
      have hl2 := dd_len (numA n k)
      rcases (show k = 0 ∨ k = 1 ∨ k = 2 ∨ k = 3 by omega) with rfl | rfl | rfl | rfl
      · have hb0 : bits BinOp.and IntKind.i64 ((n : Int) / 16777216) 255 = ((numA n 0 : Nat) : Int) := by simpa using hb
        go_wp2_with (go_at_call 48; refine HF.out.mono ?_; rintro e w2 ⟨rfl, hb2⟩; have HB2 := Lib.hid hb2; clear hb2)
        go_roundg g
        case measure => omega
        case rel => exact ⟨1, by omega, by first | rfl | simp, by simp [bytes_app, showA], below_step HR.out HB2.out⟩
      · have hb0 : bits BinOp.and IntKind.i64 ((n : Int) / 65536) 255 = ((numA n 1 : Nat) : Int) := by simpa using hb
        have hne := show_ne n 1 (by decide)
        have hni : (showA n 1).isEmpty = false := by simpa using hne
        have HNX := Lib.hid (show_next n 1 (by decide) (by decide))
        go_wp2_with (go_at_call 48; refine HF.out.mono ?_; rintro e w2 ⟨rfl, hb2⟩; have HB2 := Lib.hid hb2; clear hb2)
        go_roundg g
        case measure => omega
        case rel => exact ⟨2, by omega, by first | rfl | simp, by rw [← HNX.out, ← bytes_app, ← bytes_app, ByteArray.append_assoc], below_step HR.out HB2.out⟩
      · have hb0 : bits BinOp.and IntKind.i64 ((n : Int) / 256) 255 = ((numA n 2 : Nat) : Int) := by simpa using hb
        have hne := show_ne n 2 (by decide)
        have hni : (showA n 2).isEmpty = false := by simpa using hne
        have HNX := Lib.hid (show_next n 2 (by decide) (by decide))
        go_wp2_with (go_at_call 48; refine HF.out.mono ?_; rintro e w2 ⟨rfl, hb2⟩; have HB2 := Lib.hid hb2; clear hb2)
        go_roundg g
        case measure => omega
        case rel => exact ⟨3, by omega, by first | rfl | simp, by rw [← HNX.out, ← bytes_app, ← bytes_app, ByteArray.append_assoc], below_step HR.out HB2.out⟩
      · have hb0 : bits BinOp.and IntKind.i64 ((n : Int)) 255 = ((numA n 3 : Nat) : Int) := by simpa using hb
        have hne := show_ne n 3 (by decide)
        have hni : (showA n 3).isEmpty = false := by simpa using hne
        have HNX := Lib.hid (show_next n 3 (by decide) (by decide))
        go_wp2_with (go_at_call 48; refine HF.out.mono ?_; rintro e w2 ⟨rfl, hb2⟩; have HB2 := Lib.hid hb2; clear hb2)
        go_roundg g
        case measure => omega
        case rel => exact ⟨4, by omega, by first | rfl | simp, by rw [← HNX.out, ← bytes_app, ← bytes_app, ByteArray.append_assoc], below_step HR.out HB2.out⟩
end Go.Proofs.Cn
