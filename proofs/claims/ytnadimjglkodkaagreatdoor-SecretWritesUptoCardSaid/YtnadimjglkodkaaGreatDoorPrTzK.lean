/- secrets: the document's Show, AddrText. -/
import Derived.Test.YtnadimjglkodkaaGreatDoorPrTzG
namespace Go.Proofs.Sa
open Go Go.RowKit Go.Pl
/-- The first k numbers, with dots between. -/
def showA (n : Nat) : Nat → List UInt8
  | 0 => []
  | 1 => dd (numA n 0)
  | 2 => dd (numA n 0) ++ 46 :: dd (numA n 1)
  | 3 => dd (numA n 0) ++ 46 :: (dd (numA n 1) ++ 46 :: dd (numA n 2))
  | _ => dd (numA n 0) ++ 46 :: (dd (numA n 1) ++ 46 :: (dd (numA n 2) ++ 46 :: dd (numA n 3)))
theorem bytes_app (a b : List UInt8) : ((⟨a.toArray⟩ : ByteArray) ++ (⟨b.toArray⟩ : ByteArray)) = ⟨(a ++ b).toArray⟩ := by
  apply ByteArray.ext
  simp [ByteArray.data_append]
theorem dd_len (k : Nat) : (dd k).length ≤ 3 := by unfold dd; split <;> (try split) <;> simp
theorem show_len (n k : Nat) : (showA n k).length ≤ 15 := by
  have h0 := dd_len (numA n 0); have h1 := dd_len (numA n 1); have h2 := dd_len (numA n 2); have h3 := dd_len (numA n 3)
  unfold showA
  split <;> simp <;> omega
theorem show_next (n k : Nat) (h0 : 0 < k) (h : k < 4) : showA n k ++ ([46] ++ dd (numA n k)) = showA n (k + 1) := by
  match k, h0, h with
  | 1, _, _ => simp [showA]
  | 2, _, _ => simp [showA]
  | 3, _, _ => simp [showA]
set_option maxRecDepth 1000000 in
set_option maxHeartbeats 1600000 in
theorem show_any (n : Nat) (hn : n ≤ 4294967295) (w : World) (hc : Consts w) : Calls Tryz.prog 60 #[.int .i64 n] w fun e w' => e = .returned (.string ⟨(showA n 4).toArray⟩) ∧ Below w.heap.size w w' := by
  have HC := Lib.hid hc
  clear hc
  go_enter Tryz.func60, Tryz.ntmps60
  go_wp2
  go_loopg [3, 4] 4 (fun g s3 s4 wx => ∃ k : Nat, k + g = 4 ∧ s4 = .int .i64 k ∧ s3 = .string ⟨(showA n k).toArray⟩ ∧ Hid (Below w.heap.size w wx))
  case atStart => exact ⟨0, by omega, rfl, rfl, Below.refl _ _⟩
  case round =>
    obtain ⟨k, hkg, rfl, rfl, HR⟩ := hrel
    cases gk with
    | zero =>
      obtain rfl : k = 4 := by omega
      go_wp2
      go_ret
      exact ⟨by simp, HR.out⟩
    | succ g =>
      have hb := num_bits n k hn
      have HF := Lib.hid (format_any n k wr (HC.out.kept HR.out))
      have hk4 : (k : Int) < 4 := by omega
      have hl1 := show_len n k
      have hl2 := dd_len (numA n k)
      rcases Nat.eq_zero_or_pos k with h0 | h0
      · subst h0
        have hb0 : bits BinOp.and IntKind.i64 ((n : Int) / 16777216) 255 = ((numA n 0 : Nat) : Int) := by simpa using num_bits n 0 hn
        go_wp2_with (go_at_call 81; refine HF.out.mono ?_; rintro e w2 ⟨rfl, hb2⟩; have HB2 := Lib.hid hb2; clear hb2)
        go_roundg g
        case measure => omega
        case rel => exact ⟨1, by omega, by first | rfl | simp, by simp [bytes_app, showA], below_step HR.out HB2.out⟩
      · have hk0 : (0 : Int) < k := by omega
        have hnx := show_next n k h0 (by omega)
        have HNX := Lib.hid hnx
        clear hnx
        go_wp2_with (go_at_call 81; refine HF.out.mono ?_; rintro e w2 ⟨rfl, hb2⟩; have HB2 := Lib.hid hb2; clear hb2)
        go_roundg g
        case measure => omega
        case rel =>
          refine ⟨k + 1, by omega, by first | rfl | simp, ?_, below_step HR.out HB2.out⟩
          rw [← HNX.out, ← bytes_app, ← bytes_app, ByteArray.append_assoc]
theorem show_all (n : Nat) (_hn : n ≤ 4294967295) : showA n 4 = textA (n / 16777216 % 256) (n / 65536 % 256) (n / 256 % 256) (n % 256) := by
  simp [showA, textA, numA]
end Go.Proofs.Sa
