/- options: the document's Ip. -/
import Derived.Test.YtbegpgheikibjaaGreatDoorPrCnF
namespace Go.Proofs.Cn
open Go Go.RowKit Go.Pl Go.Maps Go.Proofs.Sa Go.Lib
/-- The document's parts, as a row that can be read. -/
theorem rcut_any (s : ByteArray) (c : UInt8) (hs : s.size ≤ 1048576) (w : World) : Calls Tryz.prog 39 #[.string s, .int .u8 c.toNat] w fun e w' => ∃ ao cap, e = .returned (.slice ao (cutAt c s.data.toList).length cap) ∧ WRow w' ao (cutAt c s.data.toList).length (cutAt c s.data.toList) ∧ Below w.heap.size w w' := by
  refine (cut_any s c hs w).mono ?_
  rintro e w' ⟨v, rfl, ho, hb⟩
  obtain ⟨ao, cap, rfl, h⟩ := wrow_of ho
  exact ⟨ao, cap, rfl, h, hb⟩
set_option maxRecDepth 1000000 in
set_option maxHeartbeats 3200000 in
theorem rip_any (s : ByteArray) (hs : s.size ≤ 1048576) (w : World) : Calls Tryz.prog 24 #[.string s] w (IRet s.data.toList w) := by
  have HS : Hid (Calls Tryz.prog 39 #[.string s, .int .u8 46] w fun e w' => ∃ ao cap, e = .returned (.slice ao (cutAt 46 s.data.toList).length cap) ∧ WRow w' ao (cutAt 46 s.data.toList).length (cutAt 46 s.data.toList) ∧ Below w.heap.size w w') := Lib.hid (rcut_any s 46 hs w)
  by_cases h4 : (cutAt 46 s.data.toList).length = 4
  · rw [h4] at HS
    have H4 := Lib.hid h4
    have HO := Lib.hid (show ipF 0 (cutAt 46 s.data.toList) = ipO s.data.toList by unfold ipO; rw [if_pos h4])
    clear h4
    go_enter Tryz.func24, Tryz.ntmps24
    go_wp2_with (go_at_call 39; refine HS.out.mono ?_; rintro e w1 ⟨ao, cap, rfl, hr1, hb1⟩; have HR1 : Hid (Ist w s.data.toList ao 0 0 w1) := Lib.hid ⟨hb1, hr1, by decide, HO.out⟩; clear hr1 hb1)
    go_loopg [5, 6] 4 (fun g s5 s14 wx => ∃ i n : Nat, i + g = 4 ∧ s5 = .int .i64 n ∧ s14 = .int .i64 i ∧ Hid (Ist w s.data.toList ao i n wx))
    case atStart => exact ⟨0, 0, by omega, rfl, rfl, HR1⟩
    case round =>
      obtain ⟨i, n, hig, rfl, rfl, HR⟩ := hrel
      cases gk with
      | zero =>
        obtain rfl : i = 4 := by omega
        have HF := Lib.hid (show ipO s.data.toList = some n by rw [← HR.out.eq, List.drop_of_length_le (by rw [H4.out]; exact Nat.le_refl _)]; rfl)
        go_wp2
        go_ret2
        exact IRet.good HF.out HR.out.below
      | succ g =>
        have c0 : (i : Int) < 4 := by omega
        obtain ⟨p, hp, hd⟩ := parts_at H4.out (show i < 4 by omega)
        obtain ⟨b, rfl, hb, hcb⟩ := HR.out.row.row (by decide)
        have d0 : wr.cell? ⟨b, i, none⟩ = some (.string ⟨p.toArray⟩) := hcb i p hp
        have HD := Lib.hid hd
        have HDg := Lib.hid (rdigits_any ⟨p.toArray⟩ wr)
        clear hcb hb hp hd
        cases hk : digL p with
        | none =>
          have HF := Lib.hid (show ipO s.data.toList = none by rw [← HR.out.eq, HD.out, ipF_bad hk])
          have HK := Lib.hid hk
          clear hk
          go_wp2_with (go_at_call 52; refine HDg.out.mono ?_; rintro e w2 ⟨m, ok, rfl, hg1, hg2, hw2⟩; have hw2 := hw2.symm; subst hw2; obtain rfl := hg2 HK.out; clear hg1 hg2)
          go_ret2
          exact IRet.bad HF.out HR.out.below
        | some k =>
          have HK := Lib.hid hk
          by_cases hk2 : 255 < k
          · have c1 : (255 : Int) < (k : Int) := by omega
            have HF := Lib.hid (show ipO s.data.toList = none by rw [← HR.out.eq, HD.out, ipF_big hk hk2])
            clear hk
            go_wp2_with (go_at_call 52; refine HDg.out.mono ?_; rintro e w2 ⟨m, ok, rfl, hg1, hg2, hw2⟩; have hw2 := hw2.symm; subst hw2; obtain ⟨rfl, rfl⟩ := hg1 k HK.out; clear hg1 hg2)
            go_ret2
            exact IRet.bad HF.out HR.out.below
          · have c1 : ¬ (255 : Int) < (k : Int) := by omega
            have ho := or_shift n k (by have := pow_256 HR.out.lt (show i < 4 by omega); omega) (by omega)
            have HN : Hid (Ist w s.data.toList (some ⟨b, 0, none⟩) (i + 1) (n * 256 + k) wr) := Lib.hid ⟨HR.out.below, HR.out.row, pow_256n HR.out.lt (by omega), by rw [← HR.out.eq, HD.out, ipF_step hk (by omega)]⟩
            clear hk
            go_wp2_with (go_at_call 52; refine HDg.out.mono ?_; rintro e w2 ⟨m, ok, rfl, hg1, hg2, hw2⟩; have hw2 := hw2.symm; subst hw2; obtain ⟨rfl, rfl⟩ := hg1 k HK.out; clear hg1 hg2)
            go_roundg g
            case measure => omega
            case rel => exact ⟨i + 1, _, by omega, by first | rfl | (rw [ho]; done), by first | (simp; done) | (simp; omega), HN⟩
  · have HF := Lib.hid (show ipO s.data.toList = none by unfold ipO; rw [if_neg h4])
    generalize hN : (cutAt 46 s.data.toList).length = N at *
    have c1 : ((N : Int) != 4) = true := by simp; omega
    clear hN
    go_enter Tryz.func24, Tryz.ntmps24
    go_wp2_with (go_at_call 39; refine HS.out.mono ?_; rintro e w1 ⟨ao, cap, rfl, hr1, hb1⟩; have HB1 := Lib.hid hb1; clear hr1 hb1)
    go_ret2
    exact IRet.bad HF.out HB1.out
end Go.Proofs.Cn
