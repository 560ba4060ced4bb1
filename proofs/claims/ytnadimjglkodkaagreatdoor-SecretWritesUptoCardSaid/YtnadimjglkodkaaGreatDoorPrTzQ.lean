/- secrets: Fault, Check of the document; Find, Check, Len of a table. -/
import Derived.Test.YtnadimjglkodkaaGreatDoorPrTzI
import Derived.Test.YtnadimjglkodkaaGreatDoorPrTzD
import Derived.Test.YtnadimjglkodkaaGreatDoorPrTzP
namespace Go.Proofs.Sa
open Go Go.RowKit Go.Pl
/-- Rows that lie in what they may. -/
def Room (l : List Sec) : Prop := ∀ x ∈ l, x.n ≤ x.cap ∧ x.cap ≤ 9223372036854775807
set_option maxRecDepth 1000000 in
set_option maxHeartbeats 1600000 in
theorem fault_any (ao : Option Addr) (n cap : Nat) (l : List Sec) (w : World) (hz : Secs w ao n l) (hr : Room l) : Calls Tryz.prog 58 #[.slice ao n cap] w fun e w' => e = .returned (.tuple #[.int .i64 (wrongR l).1, .int .i64 (wrongR l).2]) ∧ Below w.heap.size w w' := by
  have HZ := Lib.hid hz
  have HRm := Lib.hid hr
  clear hz hr
  rcases Nat.lt_or_ge 64 n with hn | hn
  · have hn' : (64 : Int) < n := by omega
    have hr : wrongR l = (7, 0) := by unfold wrongR; rw [if_pos (by rw [HZ.out.len]; exact hn)]
    go_enter Tryz.func58, Tryz.ntmps58
    go_wp2
    go_ret2
    exact ⟨by simp [hr], Below.refl _ _⟩
  have hn' : ¬ (64 : Int) < n := by omega
  have hr : wrongR l = firstBad 0 l := by unfold wrongR; rw [if_neg (by rw [HZ.out.len]; omega)]
  go_enter Tryz.func58, Tryz.ntmps58
  go_wp2
  go_loopg [12] n (fun g s12 wx => ∃ i : Nat, i + g = n ∧ s12 = .int .i64 i ∧ Hid (Below w.heap.size w wx ∧ firstBad i (l.drop i) = firstBad 0 l))
  case atStart => exact ⟨0, by omega, rfl, Below.refl _ _, rfl⟩
  case round =>
    obtain ⟨i, hig, rfl, HR⟩ := hrel
    cases gk with
    | zero =>
      obtain rfl : i = n := by omega
      have hr2 : wrongR l = (0, 0) := by
        rw [hr, ← HR.out.2, List.drop_eq_nil_of_le (by rw [HZ.out.len]; exact Nat.le_refl _)]; rfl
      go_wp2
      go_ret2
      exact ⟨by simp [hr2], HR.out.1⟩
    | succ g =>
      have hi : (i : Int) < (n : Int) := by omega
      have hil : i < l.length := by rw [HZ.out.len]; omega
      obtain ⟨x, hx⟩ : ∃ x, l[i]? = some x := ⟨_, List.getElem?_eq_getElem hil⟩
      have HS := Lib.hid (HZ.out.kept HR.out.1)
      obtain ⟨b, off, rfl, hb, hc⟩ := HS.out.row (by omega)
      obtain ⟨q0, q1, q2, q3⟩ := hc i x hx
      have HI := Lib.hid (HS.out.ints x (List.mem_of_getElem? hx))
      have HD := Lib.hid (sdrop hx)
      have hroom := HRm.out x (List.mem_of_getElem? hx)
      clear hc hx hb hil
      have HB := Lib.hid (Box4.start wr (.string x.c) (.string x.sv) (.string x.wd) (.slice x.ao x.n x.cap) 93)
      have k0 := HB.out.k0
      have k1 := HB.out.k1
      have k2 := HB.out.k2
      have k3 := HB.out.k3
      have HC := Lib.hid (rright_any x.c x.sv x.wd x.ao x.n x.cap x.zs _ (HI.out.kept ((Below.refl _ _).alloc (Nat.le_refl _) (.cells #[.string x.c, .string x.sv, .string x.wd, .slice x.ao x.n x.cap] 93))) hroom.1 hroom.2)
      have HW := Lib.hid (below_step HR.out.1 HB.out.below)
      cases h0 : x.right == 0 with
      | true =>
        have h1 : x.right = 0 := by simpa using h0
        have hr3 : rightR x.c x.sv x.wd x.zs = 0 := h1
        have hst : firstBad (i + 1) (l.drop (i + 1)) = firstBad 0 l := by rw [← HR.out.2, HD.out]; simp [firstBad, h1]
        have HT := Lib.hid hst
        have hwr : wrap64 ((i : Int) + 1) = (i : Int) + 1 := by unfold wrap64; omega
        have HWR := Lib.hid hwr
        clear hst h1 h0 hwr
        go_wp2_with (go_at_call 76; refine HC.out.mono ?_; rintro e w2 ⟨rfl, hb2⟩)
        go_roundg g
        case measure => omega
        case rel => exact ⟨i + 1, by omega, by first | rfl | simp, below_step HW.out hb2, HT.out⟩
      | false =>
        have h1 : ¬ x.right = 0 := by simpa using h0
        have hr3 : (rightR x.c x.sv x.wd x.zs != 0) = true := by show (x.right != 0) = true; simpa using h1
        have hr2 : wrongR l = (rightR x.c x.sv x.wd x.zs, (i : Int)) := by rw [hr, ← HR.out.2, HD.out]; simp [firstBad, h1]; rfl
        go_wp2_with (go_at_call 76; refine HC.out.mono ?_; rintro e w2 ⟨rfl, hb2⟩)
        go_ret2
        exact ⟨by simp [hr2], below_step HW.out hb2⟩
end Go.Proofs.Sa
