/- secrets: Fault, Check of the document; Find, Check, Len of a table. -/
import Derived.Test.YtalanklghmcajaaGreatDoorPrSfC
namespace Go.Proofs.Sa
open Go Go.RowKit Go.Pl
set_option maxRecDepth 1000000 in
set_option maxHeartbeats 1600000 in
theorem fault_any (ao : Option Addr) (n cap : Nat) (l : List Sec) (w : World) (hz : Secs w ao n l) (hr : Room l) : Calls Tryz.prog 21 #[.slice ao n cap] w fun e w' => e = .returned (.tuple #[.int .i64 (wrongR l).1, .int .i64 (wrongR l).2]) ∧ Below w.heap.size w w' := by
  have HZ := Lib.hid hz
  have HRm := Lib.hid hr
  clear hz hr
  rcases Nat.lt_or_ge 64 n with hn | hn
  · have hn' : (64 : Int) < n := by omega
    have hr : wrongR l = (7, 0) := by unfold wrongR; rw [if_pos (by rw [HZ.out.len]; exact hn)]
    go_enter Tryz.func21, Tryz.ntmps21
    go_wp2
    go_ret2
    exact ⟨by simp [hr], Below.refl _ _⟩
  have hn' : ¬ (64 : Int) < n := by omega
  have hr : wrongR l = firstBad 0 l := by unfold wrongR; rw [if_neg (by rw [HZ.out.len]; omega)]
  go_enter Tryz.func21, Tryz.ntmps21
  go_wp2
  go_loopg [12] n (fun g s12 wx => ∃ i : Nat, i + g = n ∧ s12 = .int .i64 i ∧ Hid (Below w.heap.size w wx ∧ firstBad i (l.drop i) = firstBad 0 l))
  case atStart => exact ⟨0, by omega, rfl, Below.refl _ _, rfl⟩
  case round =>
    obtain ⟨i, hig, rfl, HR⟩ := hrel
    cases gk with
    | zero =>
      obtain rfl : i = n := by omega
      have hr2 : wrongR l = (0, 0) := by
        rw [hr, ← HR.out.2, List.drop_eq_nil_of_le (by rw [HZ.out.len]; exact Nat.le_refl _)]; rfl
      go_wp2
      go_ret2
      exact ⟨by simp [hr2], HR.out.1⟩
    | succ g =>
      have hi : (i : Int) < (n : Int) := by omega
      have hil : i < l.length := by rw [HZ.out.len]; omega
      obtain ⟨x, hx⟩ : ∃ x, l[i]? = some x := ⟨_, List.getElem?_eq_getElem hil⟩
      have HS := Lib.hid (HZ.out.kept HR.out.1)
      obtain ⟨b, off, rfl, hb, hc⟩ := HS.out.row (by omega)
      obtain ⟨q0, q1, q2, q3⟩ := hc i x hx
      have HI := Lib.hid (HS.out.ints x (List.mem_of_getElem? hx))
      have HD := Lib.hid (sdrop hx)
      have hroom := HRm.out x (List.mem_of_getElem? hx)
      clear hc hx hb hil
      have HB := Lib.hid (Box4.start wr (.string x.c) (.string x.sv) (.string x.wd) (.slice x.ao x.n x.cap) 24)
      have k0 := HB.out.k0
      have k1 := HB.out.k1
      have k2 := HB.out.k2
      have k3 := HB.out.k3
      have HC := Lib.hid (rright_any x.c x.sv x.wd x.ao x.n x.cap x.zs _ (HI.out.kept ((Below.refl _ _).alloc (Nat.le_refl _) (.cells #[.string x.c, .string x.sv, .string x.wd, .slice x.ao x.n x.cap] 24))) hroom.1 hroom.2)
      have HW := Lib.hid (below_step HR.out.1 HB.out.below)
      cases h0 : x.right == 0 with
      | true =>
        have h1 : x.right = 0 := by simpa using h0
        have hr3 : rightR x.c x.sv x.wd x.zs = 0 := h1
        have hst : firstBad (i + 1) (l.drop (i + 1)) = firstBad 0 l := by rw [← HR.out.2, HD.out]; simp [firstBad, h1]
        have HT := Lib.hid hst
        have hwr : wrap64 ((i : Int) + 1) = (i : Int) + 1 := by unfold wrap64; omega
        have HWR := Lib.hid hwr
        clear hst h1 h0 hwr
        go_wp2_with (go_at_call 11; refine HC.out.mono ?_; rintro e w2 ⟨rfl, hb2⟩)
        go_roundg g
        case measure => omega
        case rel => exact ⟨i + 1, by omega, by first | rfl | simp, below_step HW.out hb2, HT.out⟩
      | false =>
        have h1 : ¬ x.right = 0 := by simpa using h0
        have hr3 : (rightR x.c x.sv x.wd x.zs != 0) = true := by show (x.right != 0) = true; simpa using h1
        have hr2 : wrongR l = (rightR x.c x.sv x.wd x.zs, (i : Int)) := by rw [hr, ← HR.out.2, HD.out]; simp [firstBad, h1]; rfl
        go_wp2_with (go_at_call 11; refine HC.out.mono ?_; rintro e w2 ⟨rfl, hb2⟩)
        go_ret2
        exact ⟨by simp [hr2], below_step HW.out hb2⟩
/-- What Check answers of what is found. -/
def checkF (y : Sec) (ok : Bool) (word : ByteArray) : Int := if !ok then 5 else if starless y.wd || !sameB y.wd word then 120 else 0
  where starless (w : ByteArray) : Bool := w.toList == []
def checkR (l : List Sec) (cl sv word : ByteArray) : Int := checkF (foundR l cl sv).1 (foundR l cl sv).2 word
set_option maxRecDepth 1000000 in
set_option maxHeartbeats 1600000 in
theorem rcheck_any (ao : Option Addr) (n cap : Nat) (l : List Sec) (cl sv word : ByteArray) (w : World) (hz : Secs w ao n l) (hn : n ≤ 1048576) (hr : Room l) : Calls Tryz.prog 25 #[.slice ao n cap, .string cl, .string sv, .string word] w fun e w' => e = .returned (.int .i64 (checkR l cl sv word)) ∧ Below w.heap.size w w' := by
  have HF := Lib.hid (rfind_any ao n cap l cl sv w hz hn hr)
  clear hz hr
  obtain ⟨y, ok, hF⟩ : ∃ y ok, foundR l cl sv = (y, ok) := ⟨_, _, rfl⟩
  have HE := Lib.hid hF
  have hck : checkR l cl sv word = checkF y ok word := by unfold checkR; rw [hF]
  rw [hck]
  clear hF hck
  cases ok with
  | false =>
    go_enter Tryz.func25, Tryz.ntmps25
    go_wp2_with (go_at_call 15; refine HF.out.mono ?_; rintro e w2 ⟨ao', cap', rfl, _, hb2, _⟩; rw [HE.out]; simp only)
    go_ret
    exact ⟨by simp [checkF], hb2.alloc hb2.size _⟩
  | true =>
    cases h1 : (y.wd.toList == []) <;> cases h2 : (y.wd.toList == word.toList) <;>
      (go_enter Tryz.func25, Tryz.ntmps25
       go_wp2_with (go_at_call 15; refine HF.out.mono ?_; rintro e w2 ⟨ao', cap', rfl, _, hb2, _⟩; rw [HE.out]; simp only)
       go_ret
       exact ⟨by simp [checkF, checkF.starless, sameB, h1, h2], hb2.alloc hb2.size _⟩)
/-- A table of secrets. -/
structure TabT (w : World) (t : Nat) (ao : Option Addr) (n cap : Nat) (l : List Sec) : Prop where
  cell : w.cell? ⟨t, 0, none⟩ = some (.slice ao n cap)
  rows : Secs w ao n l
theorem TabT.kept {w w' : World} {t : Nat} {ao : Option Addr} {n cap : Nat} {l : List Sec} (h : TabT w t ao n cap l) (hb : Below w.heap.size w w') : TabT w' t ao n cap l :=
  ⟨(hb.cell (World.block_lt_of_cell? _ _ h.cell)).trans h.cell, h.rows.kept hb⟩
set_option maxRecDepth 1000000 in
theorem len_any (t : Nat) (ao : Option Addr) (n cap : Nat) (l : List Sec) (w : World) (ht : TabT w t ao n cap l) : Calls Tryz.prog 26 #[.pointer (some ⟨t, 0, none⟩)] w fun e w' => e = .returned (.int .i64 n) ∧ Below w.heap.size w w' := by
  have k0 := ht.cell
  go_enter Tryz.func26, Tryz.ntmps26
  go_wp2
  go_ret
  exact ⟨by simp, Below.refl _ _⟩
end Go.Proofs.Sa
