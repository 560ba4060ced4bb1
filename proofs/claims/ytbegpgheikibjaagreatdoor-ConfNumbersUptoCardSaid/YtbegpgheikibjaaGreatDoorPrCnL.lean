/- options: the law ConfNumbers walked. -/
import Derived.Test.YtbegpgheikibjaaGreatDoorPrCnB
import Derived.Test.YtbegpgheikibjaaGreatDoorPrCnS
import Derived.Test.YtbegpgheikibjaaGreatDoorPrCnT
namespace Go.Proofs.Cn
open Go Go.RowKit Go.Pl Go.Maps Go.Proofs.Sa
set_option maxRecDepth 1000000 in
set_option maxHeartbeats 6400000 in
theorem numbers_law (n : Int) (s : ByteArray) (id : Nat) (hs : s.size ≤ 1048576) (hid : id < 18446744073709551616) (w : World) (hc : Consts w) (hd : w.cell? ⟨9, 15, none⟩ = some (.int .u8 4))
    (hA : ∀ w', Below w.heap.size w w' → Calls Tryz.prog 16 #[] w' fun e w2 => e = .returned (.bool true) ∧ Below w'.heap.size w' w2) :
    Calls Tryz.prog 7 #[.int .i64 n, .string s, .int .u64 id] w fun e w' => e = .returned (.bool true) ∧ Below w.heap.size w w' := by
  have HC := Lib.hid hc
  have HD : Hid (∀ w', Below w.heap.size w w' → w'.cell? ⟨9, 15, none⟩ = some (.int .u8 4)) := Lib.hid fun w' hb => (hb.cell (World.block_lt_of_cell? _ _ hd)).trans hd
  have HA := Lib.hid hA
  clear hc hd hA
  have HB9 := Lib.hid (ip_back n)
  have HTL := text_len n
  have HIB := Lib.hid (id_back id hid)
  have HIL : Hid ((⟨(identL id).toArray⟩ : ByteArray).size ≤ 1048576) := Lib.hid (by
    have e : (⟨(identL id).toArray⟩ : ByteArray).size = (identL id).length := Lib.size_eq _
    rw [e, ident_len]; decide)
  have H1 : Hid (∀ w', Below w.heap.size w w' → Calls Tryz.prog 21 #[.int .i64 n] w' fun e w2 => e = .returned (.tuple #[.string (textR n), .int .i64 (textE n)]) ∧ Below w'.heap.size w' w2) := Lib.hid fun w' hb => text_any n w' (HC.out.kept hb)
  have H2 : Hid (∀ w', Below w.heap.size w w' → Calls Tryz.prog 22 #[.int .i64 n] w' fun e w2 => e = .returned (.tuple #[.string (textR n), .int .i64 (textE n)]) ∧ Below w'.heap.size w' w2) := Lib.hid fun w' hb => rtext_any n w' (HC.out.kept hb)
  have H3 : Hid (∀ w', Below w.heap.size w w' → Calls Tryz.prog 23 #[.string s] w' fun e w2 => e = .returned (.tuple #[.int .i64 (ipR s.data.toList).1, .int .i64 (ipR s.data.toList).2]) ∧ Below w'.heap.size w' w2) := Lib.hid fun w' hb => ip_any s hs w' (HC.out.kept hb)
  have H4 : Hid (∀ w', Calls Tryz.prog 24 #[.string s] w' fun e w2 => e = .returned (.tuple #[.int .i64 (ipR s.data.toList).1, .int .i64 (ipR s.data.toList).2]) ∧ Below w'.heap.size w' w2) := Lib.hid fun w' => rip_any s hs w'
  have H5 : Hid (∀ w', Below w.heap.size w w' → Calls Tryz.prog 25 #[.string s] w' fun e w2 => e = .returned (.tuple #[.int .u64 (idR s.data.toList).1, .int .i64 (idR s.data.toList).2]) ∧ Below w'.heap.size w' w2) := Lib.hid fun w' hb => id_any s hs w' (HC.out.kept hb)
  have H6 : Hid (∀ w', Calls Tryz.prog 26 #[.string s] w' fun e w2 => e = .returned (.tuple #[.int .u64 (idR s.data.toList).1, .int .i64 (idR s.data.toList).2]) ∧ Below w'.heap.size w' w2) := Lib.hid fun w' => rid_any s hs w'
  have H7 : Hid (∀ w', Below w.heap.size w w' → Calls Tryz.prog 27 #[.int .u64 id] w' fun e w2 => e = .returned (.string ⟨(identL id).toArray⟩) ∧ Below w'.heap.size w' w2) := Lib.hid fun w' hb => ident_any id hid w' (HD.out w' hb)
  have H8 : Hid (∀ w', Calls Tryz.prog 28 #[.int .u64 id] w' fun e w2 => e = .returned (.string ⟨(identL id).toArray⟩) ∧ Below w'.heap.size w' w2) := Lib.hid fun w' => rident_any id hid w'
  have H9 : Hid (∀ w', Below w.heap.size w w' → Calls Tryz.prog 25 #[.string ⟨(identL id).toArray⟩] w' fun e w2 => e = .returned (.tuple #[.int .u64 id, .int .i64 0]) ∧ Below w'.heap.size w' w2) := Lib.hid fun w' hb => by
    refine (id_any ⟨(identL id).toArray⟩ HIL.out w' (HC.out.kept hb)).mono ?_
    rintro e w2 ⟨rfl, hb2⟩
    have e1 : idR (⟨(identL id).toArray⟩ : ByteArray).data.toList = ((id : Int), 0) := HIB.out
    exact ⟨by rw [e1], hb2⟩
  have H10 : Hid (textE n = 0 → ∀ w', Below w.heap.size w w' → Calls Tryz.prog 23 #[.string (textR n)] w' fun e w2 => e = .returned (.tuple #[.int .i64 n, .int .i64 0]) ∧ Below w'.heap.size w' w2) := Lib.hid fun h0 w' hb => by
    refine (ip_any (textR n) HTL w' (HC.out.kept hb)).mono ?_
    rintro e w2 ⟨rfl, hb2⟩
    exact ⟨by rw [HB9.out h0], hb2⟩
  clear HTL
  generalize textR n = T at *
  generalize textE n = E at *
  generalize (ipR s.data.toList).1 = p1 at *
  generalize (ipR s.data.toList).2 = p2 at *
  generalize (idR s.data.toList).1 = q1 at *
  generalize (idR s.data.toList).2 = q2 at *
  generalize (⟨(identL id).toArray⟩ : ByteArray) = J at *
  have b0 := Below.refl w.heap.size w
  have HB0 := Lib.hid b0
  clear b0
  cases hE : E == 0 with
  | true =>
    have hE0 : E = 0 := by simpa using hE
    subst hE0
    have H11 := Lib.hid (H10.out rfl)
    go_enter Tryz.func7, Tryz.ntmps7
    go_wp2_with (first
      | (go_at_call 21; with_reducible refine (H1.out _ HB0.out).mono ?_; rintro e w1 ⟨rfl, hb⟩; have HB1 := Lib.hid (below_step HB0.out hb); clear hb)
      | (go_at_call 22; with_reducible refine (H2.out _ HB1.out).mono ?_; rintro e w2 ⟨rfl, hb⟩; have HB2 := Lib.hid (below_step HB1.out hb); clear hb)
      | (go_at_call 23; with_reducible refine (H3.out _ HB2.out).mono ?_; rintro e w3 ⟨rfl, hb⟩; have HB3 := Lib.hid (below_step HB2.out hb); clear hb)
      | (go_at_call 24; with_reducible refine (H4.out _).mono ?_; rintro e w4 ⟨rfl, hb⟩; have HB4 := Lib.hid (below_step HB3.out hb); clear hb)
      | (go_at_call 25; with_reducible refine (H5.out _ HB4.out).mono ?_; rintro e w5 ⟨rfl, hb⟩; have HB5 := Lib.hid (below_step HB4.out hb); clear hb)
      | (go_at_call 26; with_reducible refine (H6.out _).mono ?_; rintro e w6 ⟨rfl, hb⟩; have HB6 := Lib.hid (below_step HB5.out hb); clear hb)
      | (go_at_call 27; with_reducible refine (H7.out _ HB6.out).mono ?_; rintro e w7 ⟨rfl, hb⟩; have HB7 := Lib.hid (below_step HB6.out hb); clear hb)
      | (go_at_call 28; with_reducible refine (H8.out _).mono ?_; rintro e w8 ⟨rfl, hb⟩; have HB8 := Lib.hid (below_step HB7.out hb); clear hb)
      | (go_at_call 27; with_reducible refine (H7.out _ HB8.out).mono ?_; rintro e w9 ⟨rfl, hb⟩; have HB9' := Lib.hid (below_step HB8.out hb); clear hb)
      | (go_at_call 25; with_reducible refine (H9.out _ HB9'.out).mono ?_; rintro e w10 ⟨rfl, hb⟩; have HB10 := Lib.hid (below_step HB9'.out hb); clear hb)
      | (go_at_call 23; with_reducible refine (H11.out _ HB10.out).mono ?_; rintro e w11 ⟨rfl, hb⟩; have HB11 := Lib.hid (below_step HB10.out hb); clear hb)
      | (go_at_call 16; with_reducible refine (HA.out _ HB11.out).mono ?_; rintro e w12 ⟨rfl, hb⟩; have HB12 := Lib.hid (below_step HB11.out hb); clear hb))
    go_ret
    exact ⟨by simp, HB12.out⟩
  | false =>
    have hE1 : (E != 0) = true := by simpa using hE
    go_enter Tryz.func7, Tryz.ntmps7
    go_wp2_with (first
      | (go_at_call 21; with_reducible refine (H1.out _ HB0.out).mono ?_; rintro e w1 ⟨rfl, hb⟩; have HB1 := Lib.hid (below_step HB0.out hb); clear hb)
      | (go_at_call 22; with_reducible refine (H2.out _ HB1.out).mono ?_; rintro e w2 ⟨rfl, hb⟩; have HB2 := Lib.hid (below_step HB1.out hb); clear hb)
      | (go_at_call 23; with_reducible refine (H3.out _ HB2.out).mono ?_; rintro e w3 ⟨rfl, hb⟩; have HB3 := Lib.hid (below_step HB2.out hb); clear hb)
      | (go_at_call 24; with_reducible refine (H4.out _).mono ?_; rintro e w4 ⟨rfl, hb⟩; have HB4 := Lib.hid (below_step HB3.out hb); clear hb)
      | (go_at_call 25; with_reducible refine (H5.out _ HB4.out).mono ?_; rintro e w5 ⟨rfl, hb⟩; have HB5 := Lib.hid (below_step HB4.out hb); clear hb)
      | (go_at_call 26; with_reducible refine (H6.out _).mono ?_; rintro e w6 ⟨rfl, hb⟩; have HB6 := Lib.hid (below_step HB5.out hb); clear hb)
      | (go_at_call 27; with_reducible refine (H7.out _ HB6.out).mono ?_; rintro e w7 ⟨rfl, hb⟩; have HB7 := Lib.hid (below_step HB6.out hb); clear hb)
      | (go_at_call 28; with_reducible refine (H8.out _).mono ?_; rintro e w8 ⟨rfl, hb⟩; have HB8 := Lib.hid (below_step HB7.out hb); clear hb)
      | (go_at_call 27; with_reducible refine (H7.out _ HB8.out).mono ?_; rintro e w9 ⟨rfl, hb⟩; have HB9' := Lib.hid (below_step HB8.out hb); clear hb)
      | (go_at_call 25; with_reducible refine (H9.out _ HB9'.out).mono ?_; rintro e w10 ⟨rfl, hb⟩; have HB10 := Lib.hid (below_step HB9'.out hb); clear hb)
      | (go_at_call 16; with_reducible refine (HA.out _ HB10.out).mono ?_; rintro e w12 ⟨rfl, hb⟩; have HB12 := Lib.hid (below_step HB10.out hb); clear hb))
    go_ret
    exact ⟨by simp, HB12.out⟩
end Go.Proofs.Cn
