/- secrets: Find. -/
import Derived.Test.YtalanklghmcajaaGreatDoorPrSaE
namespace Go.Proofs.Sa
open Go Go.RowKit Go.Pl
abbrev zeroS : Array Value := #[.string ⟨#[]⟩, .string ⟨#[]⟩, .string ⟨#[]⟩, .slice none 0 0]
/-- The zero secret's block has been laid; whatever is older or is that block is as it was. -/
def Since (w wx : World) : Prop := Below (w.heap.size + 1) (w.alloc (.cells zeroS 24)) wx
theorem Since.below {w wx : World} (h : Since w wx) : Below w.heap.size w wx := ((Below.refl _ _).alloc (Nat.le_refl _) _).trans (h.mono (Nat.le_succ _))
theorem Since.size {w wx : World} (h : Since w wx) : w.heap.size + 1 ≤ wx.heap.size := by have := Below.size h; simpa using this
theorem Since.step {w wx w' : World} (h : Since w wx) (hb : Below wx.heap.size wx w') : Since w w' := Below.trans h (hb.mono h.size)
theorem Since.zero {w wx : World} (h : Since w wx) : wx.heap[w.heap.size]? = some (.cells zeroS 24 (0, 0)) := by
  rw [Below.block h _ (Nat.lt_succ_self _)]; simp [World.alloc, -World.alloc_eq]
set_option maxRecDepth 1000000 in
set_option maxHeartbeats 6400000 in
theorem find_any (ao : Option Addr) (n cap : Nat) (l : List Sec) (cl sv : ByteArray) (w : World) (hz : Secs w ao n l) (hn : n ≤ 1048576) : Calls Tryz.prog 14 #[.slice ao n cap, .string cl, .string sv] w fun e w' => Found l cl sv w e w' := by
  have HZ := Lib.hid hz
  clear hz
  go_enter Tryz.func14, Tryz.ntmps14
  go_wp2
  go_loopg [8, 9, 15] n (fun g s8 s9 s15 wx => ∃ (i : Nat) (b a : Int), i + g = n ∧ s15 = .int .i64 i ∧ s8 = .int .i64 b ∧ s9 = .int .i64 a ∧ Hid (Since w wx ∧ scanF cl sv i (b, a) (l.drop i) = scanF cl sv 0 (-1, 0) l ∧ Good l b a))
  case atStart => exact ⟨0, -1, 0, by omega, rfl, rfl, rfl, Below.refl _ _, rfl, fun h => absurd h (by decide)⟩
  case round =>
    obtain ⟨i, bst, at_, hig, rfl, rfl, rfl, HR⟩ := hrel
    cases gk with
    | zero =>
      obtain rfl : i = n := by omega
      have hsc := HR.out.2.1
      rw [List.drop_eq_nil_of_le (by rw [HZ.out.len]; exact Nat.le_refl _)] at hsc
      have hsc' : scanF cl sv 0 (-1, 0) l = (bst, at_) := hsc.symm
      have hz0 := HR.out.1.zero
      have HS := Lib.hid (HZ.out.kept HR.out.1.below)
      by_cases hneg : bst < 0
      · have hfr : foundR l cl sv = (zeroSec, false) := by unfold foundR; rw [hsc', if_pos hneg]
        have z0 : wr.cell? ⟨w.heap.size, 0, none⟩ = some (.string ⟨#[]⟩) := by simp [World.cell?, hz0]
        have z1 : wr.cell? ⟨w.heap.size, 1, none⟩ = some (.string ⟨#[]⟩) := by simp [World.cell?, hz0]
        have z2 : wr.cell? ⟨w.heap.size, 2, none⟩ = some (.string ⟨#[]⟩) := by simp [World.cell?, hz0]
        have z3 : wr.cell? ⟨w.heap.size, 3, none⟩ = some (.slice none 0 0) := by simp [World.cell?, hz0]
        have y0 : wr.frozen? ⟨w.heap.size, 0, none⟩ = false := by simp [World.frozen?, hz0]
        have y1 : wr.frozen? ⟨w.heap.size, 1, none⟩ = false := by simp [World.frozen?, hz0]
        have y2 : wr.frozen? ⟨w.heap.size, 2, none⟩ = false := by simp [World.frozen?, hz0]
        have y3 : wr.frozen? ⟨w.heap.size, 3, none⟩ = false := by simp [World.frozen?, hz0]
        have HZ0 := Lib.hid hz0
        clear hz0 hsc hsc'
        go_wp2
        have f3 := setCell_same (o := 3) (setCell_same (o := 2) (setCell_same (o := 1) (setCell_same (o := 0) HZ0.out (.string ⟨#[]⟩)) (.string ⟨#[]⟩)) (.string ⟨#[]⟩)) (.slice none 0 0)
        refine bodyPost_ret (results_cell_row_tmp rfl _ _ w.heap.size 24 zeroS (0, 0) _ rfl (by simpa using f3) Tryz.underlying24 rfl (by kernel_rfl)) rfl ?_
        refine ⟨none, 0, by rw [hfr]; rfl, ?_, ?_, OwnI.none _ _⟩
        · rw [hfr]; exact ints_nil _
        · exact setCell_below (setCell_below (setCell_below (setCell_below HR.out.1.below (Nat.le_refl _) _) (Nat.le_refl _) _) (Nat.le_refl _) _) (Nat.le_refl _) _
      · obtain ⟨k, y, rfl, hy, hright⟩ := HR.out.2.2 (by omega)
        have hk : k < l.length := (List.getElem?_eq_some_iff.1 hy).1
        rw [HZ.out.len] at hk
        have hki : (k : Int) < (i : Int) := by omega
        have hfr : foundR l cl sv = (y, true) := by unfold foundR; rw [hsc', if_neg hneg]; simp [hy]
        obtain ⟨b, off, rfl, hb, hc⟩ := HS.out.row (by omega)
        obtain ⟨q0, q1, q2, q3⟩ := hc k y hy
        have hI := HS.out.ints y (List.mem_of_getElem? hy)
        have hlen := right_len hright
        have HO := Lib.hid (own_any y.c y.sv y.wd y.ao y.n y.cap y.zs wr hI (by have := hI.len; omega))
        have HFR := Lib.hid hfr
        clear hfr hI hc hb hlen hright hy hsc hsc' hz0
        go_wp2_with (
          go_at_call 36
          refine HO.out.mono ?_
          rintro e w5 ⟨ao', cap', rfl, hi5, hb5, hf5⟩
          have hz5 := (HR.out.1.step hb5).zero
          have z0 : w5.cell? ⟨w.heap.size, 0, none⟩ = some (.string ⟨#[]⟩) := by simp [World.cell?, hz5]
          have z1 : w5.cell? ⟨w.heap.size, 1, none⟩ = some (.string ⟨#[]⟩) := by simp [World.cell?, hz5]
          have z2 : w5.cell? ⟨w.heap.size, 2, none⟩ = some (.string ⟨#[]⟩) := by simp [World.cell?, hz5]
          have z3 : w5.cell? ⟨w.heap.size, 3, none⟩ = some (.slice none 0 0) := by simp [World.cell?, hz5]
          have y0 : w5.frozen? ⟨w.heap.size, 0, none⟩ = false := by simp [World.frozen?, hz5]
          have y1 : w5.frozen? ⟨w.heap.size, 1, none⟩ = false := by simp [World.frozen?, hz5]
          have y2 : w5.frozen? ⟨w.heap.size, 2, none⟩ = false := by simp [World.frozen?, hz5]
          have y3 : w5.frozen? ⟨w.heap.size, 3, none⟩ = false := by simp [World.frozen?, hz5]
          have HZ5 := Lib.hid hz5
          have HI5 := Lib.hid hi5
          have HF5 := Lib.hid hf5
          have HB5 := Lib.hid hb5
          clear hz5 hi5 hb5 hf5)
        have f3 := setCell_same (o := 3) (setCell_same (o := 2) (setCell_same (o := 1) (setCell_same (o := 0) HZ5.out (.string y.c)) (.string y.sv)) (.string y.wd)) (.slice ao' y.n cap')
        refine bodyPost_ret (results_cell_row_tmp rfl _ _ w.heap.size 24 #[.string y.c, .string y.sv, .string y.wd, .slice ao' y.n cap'] (0, 0) _ rfl (by simpa using f3) Tryz.underlying24 rfl (by kernel_rfl)) rfl ?_
        have hsz := HR.out.1.size
        have hne : ∀ a, ao' = some a → a.block ≠ w.heap.size := fun a ha => by have := (HF5.out a ha).1; omega
        refine ⟨ao', cap', by rw [HFR.out]; rfl, ?_, ?_, ((((HF5.out.setCell hne _).setCell hne _).setCell hne _).setCell hne _).mono (by omega)⟩
        · rw [HFR.out]
          exact (((HI5.out.setCell hne _).setCell hne _).setCell hne _).setCell hne _
        · exact setCell_below (setCell_below (setCell_below (setCell_below (HR.out.1.step HB5.out).below (Nat.le_refl _) _) (Nat.le_refl _) _) (Nat.le_refl _) _) (Nat.le_refl _) _
    | succ g =>
      have hi : (i : Int) < (n : Int) := by omega
      have hwr : wrap64 ((i : Int) + 1) = (i : Int) + 1 := by unfold wrap64; omega
      have HWR := Lib.hid hwr
      clear hwr
      have hil : i < l.length := by rw [HZ.out.len]; omega
      obtain ⟨x, hx⟩ : ∃ x, l[i]? = some x := ⟨_, List.getElem?_eq_getElem hil⟩
      have HS := Lib.hid (HZ.out.kept HR.out.1.below)
      obtain ⟨b, off, rfl, hb, hc⟩ := HS.out.row (by omega)
      obtain ⟨q0, q1, q2, q3⟩ := hc i x hx
      have HI := Lib.hid (HS.out.ints x (List.mem_of_getElem? hx))
      have hdrop : l.drop i = x :: l.drop (i + 1) := by
        obtain ⟨h2, h3⟩ := List.getElem?_eq_some_iff.1 hx
        rw [List.drop_eq_getElem_cons h2, h3]
      have HD := Lib.hid hdrop
      have HX := Lib.hid hx
      clear hdrop hc hx hb hil
      have HB := Lib.hid (Box4.start wr (.string x.c) (.string x.sv) (.string x.wd) (.slice x.ao x.n x.cap) 24)
      have k0 := HB.out.k0
      have k1 := HB.out.k1
      have k2 := HB.out.k2
      have k3 := HB.out.k3
      have HC := Lib.hid (right_any x.c x.sv x.wd x.ao x.n x.cap x.zs _ (HI.out.kept ((Below.refl _ _).alloc (Nat.le_refl _) (.cells #[.string x.c, .string x.sv, .string x.wd, .slice x.ao x.n x.cap] 24))))
      have hw := HR.out.1.step HB.out.below
      have HW := Lib.hid hw
      clear hw
      go_upto_region 5 with fail
      go_cut [52] (fun s52 wx => s52 = .bool (skipB cl sv x) ∧ Hid (Box4 wr (.string x.c) (.string x.sv) (.string x.wd) (.slice x.ao x.n x.cap) wx ∧ Since w wx))
      case first =>
        cases hA : (cl.toList == [42]) <;> cases hB : (sv.toList == [42]) <;> cases hC : (x.c.toList == cl.toList) <;> cases hD : (x.c.toList == [42]) <;> cases hE : (x.sv.toList == sv.toList) <;> cases hF : (x.sv.toList == [42]) <;>
          (go_wp2_with (go_at_call 10; refine HC.out.mono ?_; rintro e w2 ⟨rfl, hb2⟩)
           go_meet
           first
             | exact ⟨by simp [skipB, starB, sameB, hA, hB, hC, hD, hE, hF], HB.out, HW.out⟩
             | exact ⟨by simp [skipB, starB, sameB, hA, hB, hC, hD, hE, hF, Sec.right, bne], HB.out.next hb2, HW.out.step hb2⟩)
      case rest =>
        clear HB k0 k1 k2 k3 HC HW q0 q1 q2 q3
        obtain ⟨rfl, HB⟩ := hcut
        have k0 := HB.out.1.k0
        have k1 := HB.out.1.k1
        have hsc := HR.out.2.1
        rw [HD.out, scan_step] at hsc
        cases hs : skipB cl sv x
        · have hright : x.right = 0 := by
            simp only [skipB, Bool.or_eq_false_iff, Bool.not_eq_false', beq_iff_eq] at hs
            exact hs.2
          cases hC : (x.c.toList == cl.toList) <;> cases hE : (x.sv.toList == sv.toList)
          · have hrk : rankI cl sv x = 0 := by simp [rankI, sameB, hC, hE]
            by_cases hlt : bst < 0
            · have hst : stepF cl sv i (bst, at_) x = (0, (i : Int)) := by simp [stepF, hs, hrk, hlt]
              rw [hst] at hsc
              have HS2 := Lib.hid hsc
              clear hsc hst
              go_wp2
              go_roundg g
              case measure => omega
              case rel => exact ⟨i + 1, 0, i, by omega, by simp, by first | rfl | simp, rfl, HB.out.2, HS2.out, fun _ => ⟨i, x, rfl, HX.out, hright⟩⟩
            · have hst : stepF cl sv i (bst, at_) x = (bst, at_) := by simp [stepF, hs, hrk, hlt]
              rw [hst] at hsc
              have HS2 := Lib.hid hsc
              clear hsc hst
              go_wp2
              go_roundg g
              case measure => omega
              case rel => exact ⟨i + 1, bst, at_, by omega, by simp, rfl, rfl, HB.out.2, HS2.out, HR.out.2.2⟩
          · have hrk : rankI cl sv x = 1 := by simp [rankI, sameB, hC, hE]
            by_cases hlt : bst < 1
            · have hst : stepF cl sv i (bst, at_) x = (1, (i : Int)) := by simp [stepF, hs, hrk, hlt]
              rw [hst] at hsc
              have HS2 := Lib.hid hsc
              clear hsc hst
              go_wp2
              go_roundg g
              case measure => omega
              case rel => exact ⟨i + 1, 1, i, by omega, by simp, by first | rfl | simp, rfl, HB.out.2, HS2.out, fun _ => ⟨i, x, rfl, HX.out, hright⟩⟩
            · have hst : stepF cl sv i (bst, at_) x = (bst, at_) := by simp [stepF, hs, hrk, hlt]
              rw [hst] at hsc
              have HS2 := Lib.hid hsc
              clear hsc hst
              go_wp2
              go_roundg g
              case measure => omega
              case rel => exact ⟨i + 1, bst, at_, by omega, by simp, rfl, rfl, HB.out.2, HS2.out, HR.out.2.2⟩
          · have hrk : rankI cl sv x = 2 := by simp [rankI, sameB, hC, hE]
            by_cases hlt : bst < 2
            · have hst : stepF cl sv i (bst, at_) x = (2, (i : Int)) := by simp [stepF, hs, hrk, hlt]
              rw [hst] at hsc
              have HS2 := Lib.hid hsc
              clear hsc hst
              go_wp2
              go_roundg g
              case measure => omega
              case rel => exact ⟨i + 1, 2, i, by omega, by simp, by first | rfl | simp, rfl, HB.out.2, HS2.out, fun _ => ⟨i, x, rfl, HX.out, hright⟩⟩
            · have hst : stepF cl sv i (bst, at_) x = (bst, at_) := by simp [stepF, hs, hrk, hlt]
              rw [hst] at hsc
              have HS2 := Lib.hid hsc
              clear hsc hst
              go_wp2
              go_roundg g
              case measure => omega
              case rel => exact ⟨i + 1, bst, at_, by omega, by simp, rfl, rfl, HB.out.2, HS2.out, HR.out.2.2⟩
          · have hrk : rankI cl sv x = 3 := by simp [rankI, sameB, hC, hE]
            by_cases hlt : bst < 3
            · have hst : stepF cl sv i (bst, at_) x = (3, (i : Int)) := by simp [stepF, hs, hrk, hlt]
              rw [hst] at hsc
              have HS2 := Lib.hid hsc
              clear hsc hst
              go_wp2
              go_roundg g
              case measure => omega
              case rel => exact ⟨i + 1, 3, i, by omega, by simp, by first | rfl | simp, rfl, HB.out.2, HS2.out, fun _ => ⟨i, x, rfl, HX.out, hright⟩⟩
            · have hst : stepF cl sv i (bst, at_) x = (bst, at_) := by simp [stepF, hs, hrk, hlt]
              rw [hst] at hsc
              have HS2 := Lib.hid hsc
              clear hsc hst
              go_wp2
              go_roundg g
              case measure => omega
              case rel => exact ⟨i + 1, bst, at_, by omega, by simp, rfl, rfl, HB.out.2, HS2.out, HR.out.2.2⟩
        · have hst : stepF cl sv i (bst, at_) x = (bst, at_) := by simp [stepF, hs]
          rw [hst] at hsc
          have HS2 := Lib.hid hsc
          clear hsc hst
          go_wp2
          go_roundg g
          case measure => omega
          case rel => exact ⟨i + 1, bst, at_, by omega, by simp, rfl, rfl, HB.out.2, HS2.out, HR.out.2.2⟩
end Go.Proofs.Sa
