/- secrets: Right. -/
import Derived.Deep.DeepCutAuto
import Derived.Lib.Hide
import Derived.Carry
import Derived.Test.YtnadimjglkodkaaGreatDoorPrTzA
import Derived.Test.YtnadimjglkodkaaGreatDoorPrSet
import Derived.Test.YtnadimjglkodkaaGreatDoorPrBox
namespace Go.Proofs.Sa
open Go Go.RowKit Go.Pl

theorem zero4 (w : World) : (zeroValue 4).run Tryz.prog w = .ok (.bool false) w := by kernel_rfl
set_option maxRecDepth 1000000 in
set_option maxHeartbeats 1600000 in
theorem right_any (c sv wd : ByteArray) (ao : Option Addr) (n cap : Nat) (zs : List Int) (w : World) (hz : Ints w ao n zs) : Calls Tryz.prog 78 #[.agg #[.string c, .string sv, .string wd, .slice ao n cap]] w fun e w' => e = .returned (.int .i64 (rightR c sv wd zs)) ∧ Below w.heap.size w w' := by
  have HB := Lib.hid (Box4.start w (.string c) (.string sv) (.string wd) (.slice ao n cap) 93)
  have HZ := Lib.hid hz
  have hmm := @run_makeMap Tryz.prog
  clear hz
  go_enter Tryz.func78, Tryz.ntmps78
  go_upto_region 1 with fail
  go_cut [7] (fun s7 wx => s7 = .bool (nameBad c || nameBad sv) ∧ Hid (Box4 w (.string c) (.string sv) (.string wd) (.slice ao n cap) wx))
  case first =>
    have k0 := HB.out.k0
    have k1 := HB.out.k1
    cases hp : c.toList == [42] <;> cases hq : nameOk c <;> cases hp2 : sv.toList == [42] <;> cases hq2 : nameOk sv <;>
      (go_wp2_with (go_at_call 93; refine (name_any _ _).mono ?_; rintro e w2 ⟨rfl, hb⟩; have HB := Lib.hid (HB.out.next hb); clear hb; have k0 := HB.out.k0; have k1 := HB.out.k1)
       go_meet
       exact ⟨by simp [nameBad, *], HB⟩)
  case rest =>
    clear HB
    obtain ⟨rfl, HB⟩ := hcut
    cases h7 : nameBad c || nameBad sv
    · go_upto_region 3 with fail
      go_cut [28] (fun s28 wx => s28 = .bool (wordBad wd) ∧ Hid (Box4 w (.string c) (.string sv) (.string wd) (.slice ao n cap) wx))
      case first =>
        have k2 := HB.out.k2
        cases hp : wd.toList == [] <;> cases hq : nameOk wd <;>
          (go_wp2_with (go_at_call 93; refine (name_any _ _).mono ?_; rintro e w2 ⟨rfl, hb⟩; have HB := Lib.hid (HB.out.next hb); clear hb; have k2 := HB.out.k2)
           go_meet
           exact ⟨by simp [wordBad, *], HB⟩)
      case rest =>
        clear HB
        obtain ⟨rfl, HB⟩ := hcut
        cases h28 : wordBad wd
        · have k3 := HB.out.k3
          rcases Nat.lt_or_ge 16 n with hn | hn
          · have hn' : (16 : Int) < n := by omega
            go_wp2
            go_ret
            exact ⟨by simp [rightR, h7, h28, HZ.out.len, hn], HB.out.below⟩
          · have hn' : ¬ (16 : Int) < n := by omega
            have hbm : Below wc.heap.size wc (wc.alloc (.map #[] 0)) := (Below.refl _ _).alloc (Nat.le_refl _) _
            have k3m := (HB.out.next hbm).k3
            have HM := Lib.hid (IsSet.made (P := Tryz.prog) (k := 2) (e := 4) (q := .i64) wc)
            clear hbm
            go_wp2
            go_loopg [4, 47] n (fun g s4 s47 wx => ∃ (i : Nat) (t : Bool), i + g = n ∧ s47 = .int .i64 i ∧ s4 = .bool t ∧
              Hid (Below wc.heap.size wc wx ∧ IsSet Tryz.prog 2 4 .i64 wx wc.heap.size (zs.take i) ∧ ((t || dups (zs.take i) (zs.drop i)) = dups [] zs) ∧ ((zs.drop i).any badAddr = zs.any badAddr)))
            case atStart => exact ⟨0, false, by omega, rfl, rfl, (Below.refl _ _).alloc (Nat.le_refl _) _, HM, by simp, by simp⟩
            case round =>
              obtain ⟨i, t, hig, rfl, rfl, HR⟩ := hrel
              cases gk with
              | zero =>
                obtain rfl : i = n := by omega
                have hd : zs.drop i = [] := List.drop_eq_nil_of_le (by rw [HZ.out.len]; exact Nat.le_refl _)
                have ht : t = dups [] zs := by have := HR.out.2.2.1; rw [hd] at this; simpa [dups] using this
                have hbad : zs.any badAddr = false := by have := HR.out.2.2.2; rw [hd] at this; simpa using this.symm
                have hr : rightR c sv wd zs = if t then 6 else 0 := by simp [rightR, h7, h28, HZ.out.len, addrsR, hbad, ht]; omega
                have hbl := HB.out.below.trans (HR.out.1.mono (Nat.le_of_lt HB.out.lt))
                clear hd ht hbad
                cases t <;> (go_wp2; go_ret; exact ⟨by simp [hr], hbl⟩)
              | succ g =>
                have hi : (i : Int) < (n : Int) := by omega
                obtain ⟨b, off, rfl, hb, hc⟩ := HZ.out.row (by omega)
                have hbl := Lib.hid (HB.out.below.trans (HR.out.1.mono (Nat.le_of_lt HB.out.lt)))
                have hcell : wr.cell? ⟨b, off + i, none⟩ = some (.int .i64 (zs.getD i 0)) := (hbl.out.cell hb).trans (hc i (by omega))
                have hlen := HZ.out.len
                have hdrop : zs.drop i = zs.getD i 0 :: zs.drop (i + 1) := by rw [List.drop_eq_getElem_cons (by omega)]; simp [List.getD, List.getElem?_eq_getElem (show i < zs.length by omega)]
                have htake : zs.take (i + 1) = zs.take i ++ [zs.getD i 0] := by rw [List.take_add_one]; simp [List.getD, List.getElem?_eq_getElem (show i < zs.length by omega)]
                have hwf : (Lit.int .i64 (zs.getD i 0)).wf = true := HZ.out.wf _ (by rw [List.getD, List.getElem?_eq_getElem (show i < zs.length by omega)]; exact List.getElem_mem _)
                have HD := Lib.hid hdrop
                have HT := Lib.hid htake
                clear hdrop htake hc hb hlen
                have hlk := HR.out.2.1.look Tryz.underlying113 Tryz.underlying2 Tryz.underlying4 (zero4 _) _ hwf
                obtain ⟨w1, hup, hs1, hg1⟩ := HR.out.2.1.store Tryz.underlying113 Tryz.underlying2 Tryz.underlying4 (by rw [List.length_take]; unfold maxLen; omega) _ hwf
                have HS := Lib.hid hs1
                have HG := Lib.hid hg1
                clear hs1 hg1 hwf
                generalize zs.getD i 0 = a at *
                by_cases c1 : a < 1
                · have hr : rightR c sv wd zs = 150 := by
                    have : zs.any badAddr = true := by rw [← HR.out.2.2.2, HD.out]; simp [badAddr, c1]
                    simp [rightR, h7, h28, HZ.out.len, hn, addrsR, this]
                  go_wp2
                  go_ret
                  exact ⟨by simp [hr], hbl.out⟩
                by_cases c2 : 4294967295 < a
                · have hr : rightR c sv wd zs = 150 := by
                    have : zs.any badAddr = true := by rw [← HR.out.2.2.2, HD.out]; simp [badAddr, c2]
                    simp [rightR, h7, h28, HZ.out.len, hn, addrsR, this]
                  go_wp2
                  go_ret
                  exact ⟨by simp, hbl.out⟩
                have hbad : (zs.drop (i + 1)).any badAddr = zs.any badAddr := by
                  rw [← HR.out.2.2.2, HD.out]; simp [badAddr, c1, c2]
                have HN := Lib.hid (HR.out.1.grown HG.out HR.out.1.size (fun j hj => by cases hj; exact Nat.le_refl _))
                have hdup := HR.out.2.2.1
                rw [HD.out] at hdup
                simp only [dups] at hdup
                rw [← HT.out] at hdup
                have HU := Lib.hid hdup
                have HBd := Lib.hid hbad
                rw [← HT.out] at HS
                clear hdup hbad
                cases t
                · go_wp2
                  go_roundg g
                  case measure => omega
                  case rel => exact ⟨i + 1, (zs.take i).contains a, by omega, by first | rfl | simp, by simp, HN.out, HS.out, by rw [← HU.out]; simp, HBd.out⟩
                · go_wp2
                  go_roundg g
                  case measure => omega
                  case rel => exact ⟨i + 1, true, by omega, by first | rfl | simp, rfl, HN.out, HS.out, by rw [← HU.out]; simp, HBd.out⟩
        · go_wp2
          go_ret
          exact ⟨by simp [rightR, h7, h28], HB.out.below⟩
    · go_wp2
      go_ret
      exact ⟨by simp [rightR, h7], HB.out.below⟩
end Go.Proofs.Sa
