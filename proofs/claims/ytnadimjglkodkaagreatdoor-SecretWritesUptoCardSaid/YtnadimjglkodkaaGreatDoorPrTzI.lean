/- secrets: the document's Right. -/
import Derived.Test.YtnadimjglkodkaaGreatDoorPrTzB
import Derived.Test.YtnadimjglkodkaaGreatDoorPrTzH
namespace Go.Proofs.Sa
open Go Go.RowKit Go.Pl
theorem star_name {c : ByteArray} (h : (c.toList == [42]) = true) : nameOk c = true := by
  have h1 : c.data.toList = [42] := by rw [← Lib.toList_data]; simpa using h
  have h2 : c.size = 1 := by rw [Lib.size_eq, h1]; rfl
  unfold nameOk
  rw [h1, h2]; decide
theorem nameBad_not (c : ByteArray) : nameBad c = !nameOk c := by
  unfold nameBad
  cases h : (c.toList == [42])
  · simp
  · simp [star_name h]
set_option maxRecDepth 1000000 in
set_option maxHeartbeats 3200000 in
theorem rright_any (c sv wd : ByteArray) (ao : Option Addr) (n cap : Nat) (zs : List Int) (w : World) (hz : Ints w ao n zs) (hcap : n ≤ cap) (hcm : cap ≤ 9223372036854775807) : Calls Tryz.prog 76 #[.agg #[.string c, .string sv, .string wd, .slice ao n cap]] w fun e w' => e = .returned (.int .i64 (rightR c sv wd zs)) ∧ Below w.heap.size w w' := by
  have HB := Lib.hid (Box4.start w (.string c) (.string sv) (.string wd) (.slice ao n cap) 93)
  have HZ := Lib.hid hz
  clear hz
  have k0 := HB.out.k0
  have k1 := HB.out.k1
  have k2 := HB.out.k2
  have k3 := HB.out.k3
  have hb1 := nameBad_not c
  have hb2 := nameBad_not sv
  go_enter Tryz.func76, Tryz.ntmps76
  go_upto_region 1 with fail
  go_cut [9] (fun s9 wx => s9 = .bool (nameBad c || nameBad sv) ∧ wx = w.alloc (.cells #[.string c, .string sv, .string wd, .slice ao n cap] 93))
  case first =>
    cases hq : nameOk c <;> cases hq2 : nameOk sv <;>
      (go_wp2_with (go_at_call 64; refine (rname_any _ _).mono ?_; rintro e w2 ⟨rfl, rfl⟩)
       go_meet
       exact ⟨by simp [hb1, hb2, hq, hq2], rfl⟩)
  case rest =>
    obtain ⟨rfl, rfl⟩ := hcut
    cases h7 : nameBad c || nameBad sv
    · go_upto_region 3 with fail
      go_cut [20] (fun s20 wx => s20 = .bool (wordBad wd) ∧ wx = w.alloc (.cells #[.string c, .string sv, .string wd, .slice ao n cap] 93))
      case first =>
        cases hp : wd.toList == [] <;> cases hq : nameOk wd <;>
          (go_wp2_with (go_at_call 64; refine (rname_any _ _).mono ?_; rintro e w2 ⟨rfl, rfl⟩)
           go_meet
           exact ⟨by simp [wordBad, *], rfl⟩)
      case rest =>
        obtain ⟨rfl, rfl⟩ := hcut
        cases h28 : wordBad wd
        · rcases Nat.lt_or_ge 16 n with hn | hn
          · have hn' : (16 : Int) < n := by omega
            go_wp2
            go_ret
            exact ⟨by simp [rightR, h7, h28, HZ.out.len, hn], HB.out.below⟩
          · have hn' : ¬ (16 : Int) < n := by omega
            go_wp2
            go_loopg [38] n (fun g s38 wx => ∃ i : Nat, i + g = n ∧ s38 = .int .i64 i ∧ wx = w.alloc (.cells #[.string c, .string sv, .string wd, .slice ao n cap] 93) ∧ Hid ((zs.drop i).any badAddr = zs.any badAddr))
            case atStart => exact ⟨0, by omega, rfl, rfl, rfl⟩
            case round =>
              obtain ⟨i, hig, rfl, rfl, HR⟩ := hrel
              cases gk with
              | zero =>
                obtain rfl : i = n := by omega
                have hbad : zs.any badAddr = false := by
                  rw [← HR.out, List.drop_eq_nil_of_le (by rw [HZ.out.len]; exact Nat.le_refl _)]; rfl
                have HBD := Lib.hid hbad
                clear hbad HR
                go_wp2
                go_loopg [52] i (fun g s52 wx => ∃ k : Nat, k + g = i ∧ s52 = .int .i64 k ∧ wx = w.alloc (.cells #[.string c, .string sv, .string wd, .slice ao i cap] 93) ∧ Hid (dups (zs.take k) (zs.drop k) = dups [] zs))
                case atStart => exact ⟨0, by omega, rfl, rfl, by simp [Hid]⟩
                case round =>
                  obtain ⟨k, hkg, rfl, rfl, HD⟩ := hrel
                  cases gk with
                  | zero =>
                    obtain rfl : k = i := by omega
                    have hd : dups [] zs = false := by
                      rw [← HD.out, List.drop_eq_nil_of_le (by rw [HZ.out.len]; exact Nat.le_refl _)]; rfl
                    have hr : rightR c sv wd zs = 0 := by simp [rightR, h7, h28, HZ.out.len, addrsR, HBD.out, hd]; omega
                    go_wp2
                    go_ret
                    exact ⟨by simp [hr], HB.out.below⟩
                  | succ g =>
                    have hk : (k : Int) < (i : Int) := by omega
                    have hlen := HZ.out.len
                    obtain ⟨b, off, rfl, hb, hc⟩ := HZ.out.row (by omega)
                    have hcell : (w.alloc (.cells #[.string c, .string sv, .string wd, .slice (some ⟨b, off, none⟩) i cap] 93)).cell? ⟨b, off + k, none⟩ = some (.int .i64 (zs.getD k 0)) := (HB.out.below.cell hb).trans (hc k (by omega))
                    have hdrop : zs.drop k = zs.getD k 0 :: zs.drop (k + 1) := by rw [List.drop_eq_getElem_cons (by omega)]; simp [List.getD, List.getElem?_eq_getElem (show k < zs.length by omega)]
                    have htake : zs.take (k + 1) = zs.take k ++ [zs.getD k 0] := by rw [List.take_add_one]; simp [List.getD, List.getElem?_eq_getElem (show k < zs.length by omega)]
                    have hstep := HD.out
                    rw [hdrop] at hstep
                    simp only [dups] at hstep
                    rw [← htake] at hstep
                    have HST := Lib.hid hstep
                    have HCC := Lib.hid hc
                    have hkc : (k : Int) ≤ (cap : Int) := by omega
                    clear hdrop htake hstep hc
                    generalize ha : zs.getD k 0 = a at *
                    clear ha
                    go_wp2
                    go_loopg [62] k (fun g2 s62 wx => ∃ j : Nat, j + g2 = k ∧ s62 = .int .i64 j ∧ wx = w.alloc (.cells #[.string c, .string sv, .string wd, .slice (some ⟨b, off, none⟩) i cap] 93) ∧ Hid (((zs.take k).drop j).contains a = (zs.take k).contains a))
                    case atStart => exact ⟨0, by omega, rfl, rfl, rfl⟩
                    case round =>
                      obtain ⟨j, hjg, rfl, rfl, HJ⟩ := hrel
                      cases gk with
                      | zero =>
                        obtain rfl : j = k := by omega
                        have hno : (zs.take j).contains a = false := by
                          rw [← HJ.out, List.drop_eq_nil_of_le (by rw [List.length_take]; omega)]; rfl
                        have HN := Lib.hid hno
                        clear hno
                        go_wp2
                        go_roundg g
                        case measure => omega
                        case rel => exact ⟨j + 1, by omega, by first | rfl | simp, rfl, by rw [← HST.out, HN.out]; simp [Hid]⟩
                      | succ g2 =>
                        have hj : (j : Int) < (k : Int) := by omega
                        have hcell2 : (w.alloc (.cells #[.string c, .string sv, .string wd, .slice (some ⟨b, off, none⟩) i cap] 93)).cell? ⟨b, off + j, none⟩ = some (.int .i64 (zs.getD j 0)) := (HB.out.below.cell hb).trans (HCC.out j (by omega))
                        have hdj : (zs.take k).drop j = zs.getD j 0 :: (zs.take k).drop (j + 1) := by
                          rw [List.drop_eq_getElem_cons (by rw [List.length_take]; omega)]
                          simp [List.getD, List.getElem?_eq_getElem (show j < zs.length by omega)]
                        have hJ := HJ.out
                        rw [hdj] at hJ
                        have HJJ := Lib.hid hJ
                        clear hdj hJ
                        generalize hb2' : zs.getD j 0 = a2 at *
                        clear hb2'
                        cases heq : (a == a2)
                        · have hst : ((zs.take k).drop (j + 1)).contains a = (zs.take k).contains a := by
                            rw [← HJJ.out, List.contains_cons, heq]; rfl
                          have HS2 := Lib.hid hst
                          clear hst
                          go_wp2
                          go_roundg g2
                          case measure => omega
                          case rel => exact ⟨j + 1, by omega, by first | rfl | simp, rfl, HS2⟩
                        · have hyes : (zs.take k).contains a = true := by
                            rw [← HJJ.out, List.contains_cons, heq]; rfl
                          have hd : dups [] zs = true := by rw [← HST.out, hyes]; rfl
                          have hr : rightR c sv wd zs = 6 := by simp [rightR, h7, h28, HZ.out.len, addrsR, HBD.out, hd]; omega
                          go_wp2
                          go_ret
                          exact ⟨by simp [hr], HB.out.below⟩
              | succ g =>
                have hi : (i : Int) < (n : Int) := by omega
                have hlen := HZ.out.len
                obtain ⟨b, off, rfl, hb, hc⟩ := HZ.out.row (by omega)
                have hcell : (w.alloc (.cells #[.string c, .string sv, .string wd, .slice (some ⟨b, off, none⟩) n cap] 93)).cell? ⟨b, off + i, none⟩ = some (.int .i64 (zs.getD i 0)) := (HB.out.below.cell hb).trans (hc i (by omega))
                have hdrop : zs.drop i = zs.getD i 0 :: zs.drop (i + 1) := by rw [List.drop_eq_getElem_cons (by omega)]; simp [List.getD, List.getElem?_eq_getElem (show i < zs.length by omega)]
                have HD := Lib.hid hdrop
                clear hdrop hc
                generalize ha : zs.getD i 0 = a at *
                clear ha
                by_cases c1 : a < 1
                · have hr : rightR c sv wd zs = 150 := by
                    have : zs.any badAddr = true := by rw [← HR.out, HD.out]; simp [badAddr, c1]
                    simp [rightR, h7, h28, HZ.out.len, addrsR, this]; omega
                  go_wp2
                  go_ret
                  exact ⟨by simp [hr], HB.out.below⟩
                by_cases c2 : 4294967295 < a
                · have hr : rightR c sv wd zs = 150 := by
                    have : zs.any badAddr = true := by rw [← HR.out, HD.out]; simp [badAddr, c2]
                    simp [rightR, h7, h28, HZ.out.len, addrsR, this]; omega
                  go_wp2
                  go_ret
                  exact ⟨by simp, HB.out.below⟩
                have hst : (zs.drop (i + 1)).any badAddr = zs.any badAddr := by
                  rw [← HR.out, HD.out]; simp [badAddr, c1, c2]
                have HS := Lib.hid hst
                clear hst
                go_wp2
                go_roundg g
                case measure => omega
                case rel => exact ⟨i + 1, by omega, by first | rfl | simp, rfl, HS⟩
        · go_wp2
          go_ret
          exact ⟨by simp [rightR, h7, h28], HB.out.below⟩
    · go_wp2
      go_ret
      exact ⟨by simp [rightR, h7], HB.out.below⟩
end Go.Proofs.Sa
