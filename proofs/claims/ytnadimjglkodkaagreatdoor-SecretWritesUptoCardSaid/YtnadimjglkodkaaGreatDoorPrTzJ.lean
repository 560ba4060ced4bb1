/- secrets: the document's One. -/
import Derived.Deep.QuietTactic
import Derived.BigQuiet
import Derived.Test.YtnadimjglkodkaaGreatDoorPrTzA
namespace Go.Proofs.Sa
open Go Go.RowKit Go.Pl
theorem drawn {B : Nat} {a w : World} (h : Below B a w) (n : Nat) : Below B a (w.drewN n) := ⟨h.os, h.tape, h.output, h.size, h.block⟩
def oneR (x y : Sec) : Bool := sameB x.c y.c && sameB x.sv y.sv && sameB x.wd y.wd && x.zs == y.zs
set_option maxRecDepth 1000000 in
set_option maxHeartbeats 3200000 in
theorem one_any (x y : Sec) (w : World) (hx : Ints w x.ao x.n x.zs) (hy : Ints w y.ao y.n y.zs) (hn : x.n ≤ 1048576) : Calls Tryz.prog 50 #[x.val, y.val] w fun e w' => e = .returned (.bool (oneR x y)) ∧ Below w.heap.size w w' := by
  obtain ⟨c, sv, wd, ao, n, cap, zs⟩ := x
  obtain ⟨c', sv', wd', ao', n', cap', zs'⟩ := y
  simp only at hx hy hn
  have HB := Lib.hid (Box4.start w (.string c) (.string sv) (.string wd) (.slice ao n cap) 93)
  have HB2 := Lib.hid (Box4.start (w.alloc (.cells #[.string c, .string sv, .string wd, .slice ao n cap] 93)) (.string c') (.string sv') (.string wd') (.slice ao' n' cap') 93)
  have HX := Lib.hid hx
  have HY := Lib.hid hy
  clear hx hy
  have HBO := Lib.hid (HB.out.next HB2.out.below)
  have k0 := HBO.out.k0
  have k1 := HBO.out.k1
  have k2 := HBO.out.k2
  have k3 := HBO.out.k3
  have hsz : (w.alloc (.cells #[.string c, .string sv, .string wd, .slice ao n cap] 93)).heap.size = w.heap.size + 1 := by simp
  have l0 := HB2.out.k0
  have l1 := HB2.out.k1
  have l2 := HB2.out.k2
  have l3 := HB2.out.k3
  rw [hsz] at l0 l1 l2 l3
  go_enter Tryz.func50, Tryz.ntmps50
  cases e0 : (c.toList == c'.toList)
  · have hr : oneR ⟨c, sv, wd, ao, n, cap, zs⟩ ⟨c', sv', wd', ao', n', cap', zs'⟩ = false := by simp [oneR, sameB, e0]
    go_wp2
    go_ret
    exact ⟨by simp [hr], HBO.out.below⟩
  cases e1 : (sv.toList == sv'.toList)
  · have hr : oneR ⟨c, sv, wd, ao, n, cap, zs⟩ ⟨c', sv', wd', ao', n', cap', zs'⟩ = false := by simp [oneR, sameB, e1]
    go_wp2
    go_ret
    exact ⟨by simp [hr], HBO.out.below⟩
  cases e2 : (wd.toList == wd'.toList)
  · have hr : oneR ⟨c, sv, wd, ao, n, cap, zs⟩ ⟨c', sv', wd', ao', n', cap', zs'⟩ = false := by simp [oneR, sameB, e2]
    go_wp2
    go_ret
    exact ⟨by simp [hr], HBO.out.below⟩
  have hr0 : oneR ⟨c, sv, wd, ao, n, cap, zs⟩ ⟨c', sv', wd', ao', n', cap', zs'⟩ = (zs == zs') := by simp [oneR, sameB, e0, e1, e2]
  by_cases e3 : n = n'
  case neg =>
    have e3' : ((n : Int) != (n' : Int)) = true := by simp; omega
    have hr : oneR ⟨c, sv, wd, ao, n, cap, zs⟩ ⟨c', sv', wd', ao', n', cap', zs'⟩ = false := by
      rw [hr0]
      simp only [beq_eq_false_iff_ne]
      intro h
      exact e3 (by rw [← HX.out.len, ← HY.out.len, h])
    go_wp2
    go_ret
    exact ⟨by simp [hr], HBO.out.below⟩
  subst e3
  go_wp2
  go_loopg [37] n (fun g s37 wx => ∃ i : Nat, i + g = n ∧ s37 = .int .i64 i ∧ Hid ((Box4 w (.string c) (.string sv) (.string wd) (.slice ao n cap) wx ∧ Box4 (w.alloc (.cells #[.string c, .string sv, .string wd, .slice ao n cap] 93)) (.string c') (.string sv') (.string wd') (.slice ao' n cap') wx) ∧ (zs.drop i == zs'.drop i) = (zs == zs')))
  case atStart => exact ⟨0, by omega, rfl, ⟨HBO.out, HB2.out⟩, rfl⟩
  case round =>
    clear k0 k1 k2 k3 l0 l1 l2 l3
    obtain ⟨i, hig, rfl, HR⟩ := hrel
    have k3 := HR.out.1.1.k3
    have l3 := HR.out.1.2.k3
    rw [hsz] at l3
    cases gk with
    | zero =>
      obtain rfl : i = n := by omega
      have hr : oneR ⟨c, sv, wd, ao, i, cap, zs⟩ ⟨c', sv', wd', ao', i, cap', zs'⟩ = true := by
        rw [hr0, ← HR.out.2, List.drop_eq_nil_of_le (by rw [HX.out.len]; exact Nat.le_refl _), List.drop_eq_nil_of_le (by rw [HY.out.len]; exact Nat.le_refl _)]; rfl
      go_wp2
      go_ret
      exact ⟨by simp [hr], HR.out.1.1.below⟩
    | succ g =>
      have hi : (i : Int) < (n : Int) := by omega
      have hlx := HX.out.len
      have hly := HY.out.len
      obtain ⟨b, off, rfl, hb, hc⟩ := HX.out.row (by omega)
      obtain ⟨b', off', rfl, hb', hc'⟩ := HY.out.row (by omega)
      have q0 := (HR.out.1.1.below.cell (p := ⟨b, off + i, none⟩) hb).trans (hc i (by omega))
      have q1 := (HR.out.1.1.below.cell (p := ⟨b', off' + i, none⟩) hb').trans (hc' i (by omega))
      have hd : zs.drop i = zs.getD i 0 :: zs.drop (i + 1) := by rw [List.drop_eq_getElem_cons (by omega)]; simp [List.getD, List.getElem?_eq_getElem (show i < zs.length by omega)]
      have hd' : zs'.drop i = zs'.getD i 0 :: zs'.drop (i + 1) := by rw [List.drop_eq_getElem_cons (by omega)]; simp [List.getD, List.getElem?_eq_getElem (show i < zs'.length by omega)]
      have hst := HR.out.2
      rw [hd, hd'] at hst
      have HS := Lib.hid hst
      clear hst hd hd' hc hc'
      generalize zs.getD i 0 = a at *
      generalize zs'.getD i 0 = a' at *
      cases he : (a == a')
      · have hne : (a != a') = true := by simp [bne, he]
        have hr : oneR ⟨c, sv, wd, some ⟨b, off, none⟩, n, cap, zs⟩ ⟨c', sv', wd', some ⟨b', off', none⟩, n, cap', zs'⟩ = false := by
          rw [hr0, ← HS.out, List.cons_beq_cons, he]; rfl
        go_wp2
        go_quiet (fail)
        go_wp2
        go_ret
        exact ⟨by simp [hr], drawn HR.out.1.1.below _⟩
      · obtain rfl : a = a' := by simpa using he
        have hne : (a != a) = false := by simp
        have hst : (zs.drop (i + 1) == zs'.drop (i + 1)) = (zs == zs') := by
          rw [← HS.out, List.cons_beq_cons]; simp
        have HT := Lib.hid hst
        have hwr : wrap64 ((i : Int) + 1) = (i : Int) + 1 := by unfold wrap64; omega
        have HWR := Lib.hid hwr
        clear hst hwr
        go_wp2
        go_quiet (fail)
        go_wp2
        go_roundg g
        case measure => omega
        case rel => exact ⟨i + 1, by omega, by simp, ⟨HR.out.1.1.next (drawn (Below.refl _ _) _), HR.out.1.2.next (drawn (Below.refl _ _) _)⟩, HT.out⟩
end Go.Proofs.Sa
