/- options: padded, the program's Ident. -/
import Derived.Test.YtbegpgheikibjaaGreatDoorPrCnR
import Derived.Test.YtbegpgheikibjaaGreatDoorPrCnQ
import Derived.Test.YtbegpgheikibjaaGreatDoorPrCnO
namespace Go.Proofs.Cn
open Go Go.RowKit Go.Pl Go.Maps Go.Proofs.Sa
theorem four_mod (m : Nat) : four (m % 65536) = four m := by
  have h : ∀ k, k < 4 → hexAt (m % 65536) k = hexAt m k := fun k hk => by
    match k, hk with
    | 0, _ => simp only [hexAt]; omega
    | 1, _ => simp only [hexAt]; omega
    | 2, _ => simp only [hexAt]; omega
    | 3, _ => simp only [hexAt]; omega
  simp only [four, h 0 (by decide), h 1 (by decide), h 2 (by decide), h 3 (by decide)]
theorem hexC_0 : hexC 0 = 48 := rfl
theorem four_eq (u : Nat) : four u = [hexC (u / 4096 % 16), hexC (u / 256 % 16), hexC (u / 16 % 16), hexC (u / 1 % 16)] := rfl
theorem cons4 {a b c d a' b' c' d' : Nat} (h1 : a = a') (h2 : b = b') (h3 : c = c') (h4 : d = d') : [hexC a, hexC b, hexC c, hexC d] = [hexC a', hexC b', hexC c', hexC d'] := by rw [h1, h2, h3, h4]
theorem fmt_cases (u : Nat) (hu : u < 65536) : ((fmtH 3 u []).length = 1 ∧ [48, 48, 48] ++ fmtH 3 u [] = four u) ∨ ((fmtH 3 u []).length = 2 ∧ [48, 48] ++ fmtH 3 u [] = four u) ∨ ((fmtH 3 u []).length = 3 ∧ [48] ++ fmtH 3 u [] = four u) ∨ ((fmtH 3 u []).length = 4 ∧ [] ++ fmtH 3 u [] = four u) := by
  rw [four_eq]
  by_cases h1 : 16 ≤ u
  · by_cases h2 : 16 ≤ u / 16
    · by_cases h3 : 16 ≤ u / 16 / 16
      · refine .inr (.inr (.inr ?_))
        simp only [fmtH, if_pos h1, if_pos h2, if_pos h3]
        exact ⟨rfl, cons4 (a := u / 16 / 16 / 16) (b := u / 16 / 16 % 16) (c := u / 16 % 16) (d := u % 16) (by omega) (by omega) (by omega) (by omega)⟩
      · refine .inr (.inr (.inl ?_))
        simp only [fmtH, if_pos h1, if_pos h2, if_neg h3]
        exact ⟨rfl, cons4 (a := 0) (b := u / 16 / 16) (c := u / 16 % 16) (d := u % 16) (by omega) (by omega) (by omega) (by omega)⟩
    · refine .inr (.inl ?_)
      simp only [fmtH, if_pos h1, if_neg h2]
      exact ⟨rfl, cons4 (a := 0) (b := 0) (c := u / 16) (d := u % 16) (by omega) (by omega) (by omega) (by omega)⟩
  · refine .inl ?_
    simp only [fmtH, if_neg h1]
    exact ⟨rfl, cons4 (a := 0) (b := 0) (c := 0) (d := u) (by omega) (by omega) (by omega) (by omega)⟩
set_option maxRecDepth 1000000 in
set_option maxHeartbeats 1600000 in
theorem padded_any (u : Nat) (hu : u < 65536) (w : World) (hd : w.cell? ⟨9, 15, none⟩ = some (.int .u8 4)) : Calls Tryz.prog 55 #[.int .u64 u, .int .i64 4] w fun e w' => e = .returned (.string ⟨(four u).toArray⟩) ∧ Below w.heap.size w w' := by
  have HF := Lib.hid (fu_any u hu w hd)
  clear hd
  have hc := fmt_cases u hu
  generalize fmtH 3 u [] = f at *
  generalize four u = q at *
  rcases hc with ⟨h1, rfl⟩ | ⟨h1, rfl⟩ | ⟨h1, rfl⟩ | ⟨h1, rfl⟩
  · go_enter Tryz.func55, Tryz.ntmps55
    go_wp2_with (first
      | (go_at_call 98; refine HF.out.mono ?_; rintro e w2 ⟨rfl, hb2⟩; have HB2 := Lib.hid hb2; clear hb2)
      | (go_at_call 99; refine (rep3 _).mono ?_; rintro e w3 ⟨rfl, hb3⟩; have HB3 := Lib.hid hb3; clear hb3))
    go_ret
    exact ⟨congrArg (fun x => Ending.returned (Value.string x)) (bytes_app [48, 48, 48] f), below_step HB2.out HB3.out⟩
  · go_enter Tryz.func55, Tryz.ntmps55
    go_wp2_with (first
      | (go_at_call 98; refine HF.out.mono ?_; rintro e w2 ⟨rfl, hb2⟩; have HB2 := Lib.hid hb2; clear hb2)
      | (go_at_call 99; refine (rep2 _).mono ?_; rintro e w3 ⟨rfl, hb3⟩; have HB3 := Lib.hid hb3; clear hb3))
    go_ret
    exact ⟨congrArg (fun x => Ending.returned (Value.string x)) (bytes_app [48, 48] f), below_step HB2.out HB3.out⟩
  · go_enter Tryz.func55, Tryz.ntmps55
    go_wp2_with (first
      | (go_at_call 98; refine HF.out.mono ?_; rintro e w2 ⟨rfl, hb2⟩; have HB2 := Lib.hid hb2; clear hb2)
      | (go_at_call 99; refine (rep1 _).mono ?_; rintro e w3 ⟨rfl, hb3⟩; have HB3 := Lib.hid hb3; clear hb3))
    go_ret
    exact ⟨congrArg (fun x => Ending.returned (Value.string x)) (bytes_app [48] f), below_step HB2.out HB3.out⟩
  · go_enter Tryz.func55, Tryz.ntmps55
    go_wp2_with (first
      | (go_at_call 98; refine HF.out.mono ?_; rintro e w2 ⟨rfl, hb2⟩; have HB2 := Lib.hid hb2; clear hb2)
      | (go_at_call 99; refine (rep0 _).mono ?_; rintro e w3 ⟨rfl, hb3⟩; have HB3 := Lib.hid hb3; clear hb3))
    go_ret
    exact ⟨congrArg (fun x => Ending.returned (Value.string x)) (bytes_app [] f), below_step HB2.out HB3.out⟩
theorem and_ffff (a : Nat) (ha : a < 18446744073709551616) : bits BinOp.and .u64 (a : Int) 65535 = ((a % 65536 : Nat) : Int) := by
  have : (65535 : Int) = ((65535 : Nat) : Int) := rfl
  rw [this, u64_and_nat _ _ ha (by decide)]
  congr 1
  exact Nat.and_two_pow_sub_one_eq_mod _ 16
set_option maxRecDepth 1000000 in
set_option maxHeartbeats 1600000 in
theorem ident_any (n : Nat) (hn : n < 18446744073709551616) (w : World) (hd : w.cell? ⟨9, 15, none⟩ = some (.int .u8 4)) : Calls Tryz.prog 27 #[.int .u64 n] w fun e w' => e = .returned (.string ⟨(identL n).toArray⟩) ∧ Below w.heap.size w w' := by
  have HD : Hid (∀ w', Below w.heap.size w w' → w'.cell? ⟨9, 15, none⟩ = some (.int .u8 4)) := Lib.hid fun w' hb => (hb.cell (World.block_lt_of_cell? _ _ hd)).trans hd
  clear hd
  have H1 : Hid (∀ w', Below w.heap.size w w' → Calls Tryz.prog 55 #[.int .u64 ((n : Int) / 281474976710656), .int .i64 4] w' fun e w2 => e = .returned (.string ⟨(four (n / 281474976710656)).toArray⟩) ∧ Below w'.heap.size w' w2) := Lib.hid fun w' hb => padded_any (n / 281474976710656) (by omega) w' (HD.out w' hb)
  have H2 : Hid (∀ w', Below w.heap.size w w' → Calls Tryz.prog 55 #[.int .u64 ((n / 4294967296 % 65536 : Nat) : Int), .int .i64 4] w' fun e w2 => e = .returned (.string ⟨(four (n / 4294967296)).toArray⟩) ∧ Below w'.heap.size w' w2) := Lib.hid fun w' hb => by
    have := padded_any (n / 4294967296 % 65536) (by omega) w' (HD.out w' hb)
    rwa [four_mod] at this
  have H3 : Hid (∀ w', Below w.heap.size w w' → Calls Tryz.prog 55 #[.int .u64 ((n / 65536 % 65536 : Nat) : Int), .int .i64 4] w' fun e w2 => e = .returned (.string ⟨(four (n / 65536)).toArray⟩) ∧ Below w'.heap.size w' w2) := Lib.hid fun w' hb => by
    have := padded_any (n / 65536 % 65536) (by omega) w' (HD.out w' hb)
    rwa [four_mod] at this
  have H4 : Hid (∀ w', Below w.heap.size w w' → Calls Tryz.prog 55 #[.int .u64 ((n % 65536 : Nat) : Int), .int .i64 4] w' fun e w2 => e = .returned (.string ⟨(four n).toArray⟩) ∧ Below w'.heap.size w' w2) := Lib.hid fun w' hb => by
    have := padded_any (n % 65536) (by omega) w' (HD.out w' hb)
    rwa [four_mod] at this
  have a2 : bits BinOp.and .u64 ((n : Int) / 4294967296) 65535 = ((n / 4294967296 % 65536 : Nat) : Int) := and_ffff (n / 4294967296) (by omega)
  have a3 : bits BinOp.and .u64 ((n : Int) / 65536) 65535 = ((n / 65536 % 65536 : Nat) : Int) := and_ffff (n / 65536) (by omega)
  have a4 : bits BinOp.and .u64 (n : Int) 65535 = ((n % 65536 : Nat) : Int) := and_ffff n hn
  have HE := Lib.hid (ident_eq n)
  have hl1 := four_len (n / 281474976710656)
  have hl2 := four_len (n / 4294967296)
  have hl3 := four_len (n / 65536)
  have hl4 := four_len n
  generalize four (n / 281474976710656) = q1 at *
  generalize four (n / 4294967296) = q2 at *
  generalize four (n / 65536) = q3 at *
  generalize four n = q4 at *
  generalize n / 4294967296 % 65536 = m2 at *
  generalize n / 65536 % 65536 = m3 at *
  generalize n % 65536 = m4 at *
  go_enter Tryz.func27, Tryz.ntmps27
  go_wp2_with (first
    | (go_at_call 55; with_reducible refine (H1.out _ (Below.refl _ _)).mono ?_; rintro e w1 ⟨rfl, hb1⟩; have HB1 := Lib.hid hb1; clear hb1)
    | (go_at_call 55; with_reducible refine (H2.out _ HB1.out).mono ?_; rintro e w2 ⟨rfl, hb2⟩; have HB2 := Lib.hid (below_step HB1.out hb2); clear hb2)
    | (go_at_call 55; with_reducible refine (H3.out _ HB2.out).mono ?_; rintro e w3 ⟨rfl, hb3⟩; have HB3 := Lib.hid (below_step HB2.out hb3); clear hb3)
    | (go_at_call 55; with_reducible refine (H4.out _ HB3.out).mono ?_; rintro e w4 ⟨rfl, hb4⟩; have HB4 := Lib.hid (below_step HB3.out hb4); clear hb4))
  go_ret
  exact ⟨by rw [← HE.out]; rfl, HB4.out⟩
end Go.Proofs.Cn
