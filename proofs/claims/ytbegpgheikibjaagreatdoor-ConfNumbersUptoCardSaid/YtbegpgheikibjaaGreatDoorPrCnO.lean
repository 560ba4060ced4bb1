/- options: the document's Ident. -/
import Derived.Test.YtbegpgheikibjaaGreatDoorPrCnM
namespace Go.Proofs.Cn
open Go Go.RowKit Go.Pl Go.Maps Go.Proofs.Sa
def identL (n : Nat) : List UInt8 := four (n / 281474976710656) ++ 58 :: (four (n / 4294967296) ++ 58 :: (four (n / 65536) ++ 58 :: four n))
theorem bytes_ext {a b : ByteArray} (h : a.data.toList = b.data.toList) : a = b := by
  obtain ⟨x⟩ := a; obtain ⟨y⟩ := b
  congr 1; exact Array.toList_inj.1 h
theorem four_len (m : Nat) : (four m).length = 4 := rfl
theorem ident_eq (n : Nat) : ((((((⟨(four (n / 281474976710656)).toArray⟩ : ByteArray) ++ ⟨#[58]⟩) ++ ⟨(four (n / 4294967296)).toArray⟩) ++ ⟨#[58]⟩) ++ ⟨(four (n / 65536)).toArray⟩) ++ ⟨#[58]⟩) ++ ⟨(four n).toArray⟩ = (⟨(identL n).toArray⟩ : ByteArray) := by
  apply bytes_ext
  simp [identL]
set_option maxRecDepth 1000000 in
set_option maxHeartbeats 1600000 in
theorem rident_any (n : Nat) (hn : n < 18446744073709551616) (w : World) : Calls Tryz.prog 28 #[.int .u64 n] w fun e w' => e = .returned (.string ⟨(identL n).toArray⟩) ∧ Below w.heap.size w w' := by
  have H1 : Hid (∀ w', Calls Tryz.prog 56 #[.int .u64 ((n : Int) / 281474976710656)] w' fun e w2 => e = .returned (.string ⟨(four (n / 281474976710656)).toArray⟩) ∧ Below w'.heap.size w' w2) := Lib.hid fun w' => four_any (n / 281474976710656) (by omega) w'
  have H2 : Hid (∀ w', Calls Tryz.prog 56 #[.int .u64 ((n : Int) / 4294967296)] w' fun e w2 => e = .returned (.string ⟨(four (n / 4294967296)).toArray⟩) ∧ Below w'.heap.size w' w2) := Lib.hid fun w' => four_any (n / 4294967296) (by omega) w'
  have H3 : Hid (∀ w', Calls Tryz.prog 56 #[.int .u64 ((n : Int) / 65536)] w' fun e w2 => e = .returned (.string ⟨(four (n / 65536)).toArray⟩) ∧ Below w'.heap.size w' w2) := Lib.hid fun w' => four_any (n / 65536) (by omega) w'
  have H4 : Hid (∀ w', Calls Tryz.prog 56 #[.int .u64 (n : Int)] w' fun e w2 => e = .returned (.string ⟨(four n).toArray⟩) ∧ Below w'.heap.size w' w2) := Lib.hid fun w' => four_any n hn w'
  have HE := Lib.hid (ident_eq n)
  have hl1 := four_len (n / 281474976710656)
  have hl2 := four_len (n / 4294967296)
  have hl3 := four_len (n / 65536)
  have hl4 := four_len n
  generalize four (n / 281474976710656) = a1 at *
  generalize four (n / 4294967296) = a2 at *
  generalize four (n / 65536) = a3 at *
  generalize four n = a4 at *
  go_enter Tryz.func28, Tryz.ntmps28
  go_wp2_with (first
    | (go_at_call 56; with_reducible refine (H1.out _).mono ?_; rintro e w1 ⟨rfl, hb1⟩; have HB1 := Lib.hid hb1; clear hb1)
    | (go_at_call 56; with_reducible refine (H2.out _).mono ?_; rintro e w2 ⟨rfl, hb2⟩; have HB2 := Lib.hid (below_step HB1.out hb2); clear hb2)
    | (go_at_call 56; with_reducible refine (H3.out _).mono ?_; rintro e w3 ⟨rfl, hb3⟩; have HB3 := Lib.hid (below_step HB2.out hb3); clear hb3)
    | (go_at_call 56; with_reducible refine (H4.out _).mono ?_; rintro e w4 ⟨rfl, hb4⟩; have HB4 := Lib.hid (below_step HB3.out hb4); clear hb4))
  go_ret
  exact ⟨by rw [← HE.out]; rfl, HB4.out⟩
end Go.Proofs.Cn
