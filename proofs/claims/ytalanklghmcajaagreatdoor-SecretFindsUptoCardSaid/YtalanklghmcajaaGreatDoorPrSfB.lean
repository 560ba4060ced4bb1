/- secrets: Same, by either side. -/
import Derived.Deep.RegionHeld3
import Derived.Test.YtalanklghmcajaaGreatDoorPrSfA
namespace Go.Proofs.Sa
open Go Go.RowKit Go.Pl
/-- Rows of secrets that are the same. -/
def sameL : List Sec → List Sec → Bool
  | [], [] => true
  | x :: l, y :: m => oneR x y && sameL l m
  | _, _ => false
theorem sameL_len : ∀ (l m : List Sec), sameL l m = true → l.length = m.length
  | [], [], _ => rfl
  | x :: l, y :: m, h => by
    simp only [sameL, Bool.and_eq_true] at h
    simp [sameL_len l m h.2]
  | [], _ :: _, h => by cases h
  | _ :: _, [], h => by cases h
set_option maxRecDepth 1000000 in
set_option maxHeartbeats 1600000 in
theorem same1_any (x y : Sec) (w : World) (hx : Ints w x.ao x.n x.zs) (hy : Ints w y.ao y.n y.zs) (hn : x.n ≤ 1048576) : Calls Tryz.prog 39 #[x.val, y.val] w fun e w' => e = .returned (.bool (oneR x y)) ∧ Below w.heap.size w w' := by
  obtain ⟨c, sv, wd, ao, n, cap, zs⟩ := x
  obtain ⟨c', sv', wd', ao', n', cap', zs'⟩ := y
  simp only at hx hy hn
  have HB := Lib.hid (Box4.start w (.string c) (.string sv) (.string wd) (.slice ao n cap) 24)
  have HB2 := Lib.hid (Box4.start (w.alloc (.cells #[.string c, .string sv, .string wd, .slice ao n cap] 24)) (.string c') (.string sv') (.string wd') (.slice ao' n' cap') 24)
  have HBO := Lib.hid (HB.out.next HB2.out.below)
  have HX := Lib.hid (hx.kept HBO.out.below)
  have HY := Lib.hid (hy.kept HBO.out.below)
  clear hx hy
  have k0 := HBO.out.k0
  have k1 := HBO.out.k1
  have k2 := HBO.out.k2
  have k3 := HBO.out.k3
  have hsz : (w.alloc (.cells #[.string c, .string sv, .string wd, .slice ao n cap] 24)).heap.size = w.heap.size + 1 := by simp
  have l0 := HB2.out.k0
  have l1 := HB2.out.k1
  have l2 := HB2.out.k2
  have l3 := HB2.out.k3
  rw [hsz] at l0 l1 l2 l3
  go_enter Tryz.func39, Tryz.ntmps39
  cases e0 : (c.toList == c'.toList)
  · have hr : oneR ⟨c, sv, wd, ao, n, cap, zs⟩ ⟨c', sv', wd', ao', n', cap', zs'⟩ = false := by simp [oneR, sameB, e0]
    go_wp2
    go_ret
    exact ⟨by simp [hr], HBO.out.below⟩
  cases e1 : (sv.toList == sv'.toList)
  · have hr : oneR ⟨c, sv, wd, ao, n, cap, zs⟩ ⟨c', sv', wd', ao', n', cap', zs'⟩ = false := by simp [oneR, sameB, e1]
    go_wp2
    go_ret
    exact ⟨by simp [hr], HBO.out.below⟩
  cases e2 : (wd.toList == wd'.toList)
  · have hr : oneR ⟨c, sv, wd, ao, n, cap, zs⟩ ⟨c', sv', wd', ao', n', cap', zs'⟩ = false := by simp [oneR, sameB, e2]
    go_wp2
    go_ret
    exact ⟨by simp [hr], HBO.out.below⟩
  have hr0 : oneR ⟨c, sv, wd, ao, n, cap, zs⟩ ⟨c', sv', wd', ao', n', cap', zs'⟩ = (zs == zs') := by simp [oneR, sameB, e0, e1, e2]
  have HE := Lib.hid (equal_any ao ao' n cap n' cap' zs zs' _ HX.out HY.out hn)
  cases hE : (zs == zs')
  all_goals
    rw [hE] at HE hr0
    go_wp2_with (go_at_call 40; refine HE.out.mono ?_; rintro e w2 ⟨rfl, hb2⟩)
    go_ret
    exact ⟨by simp only [hr0]; rfl, below_step HBO.out.below hb2⟩
theorem sdrop {l : List Sec} {i : Nat} {x : Sec} (hx : l[i]? = some x) : l.drop i = x :: l.drop (i + 1) := by
  obtain ⟨h2, h3⟩ := List.getElem?_eq_some_iff.1 hx
  rw [List.drop_eq_getElem_cons h2, h3]
set_option maxRecDepth 1000000 in
set_option maxHeartbeats 1600000 in
theorem equalf_any (ao bo : Option Addr) (n cap m cb : Nat) (l r : List Sec) (w : World) (hz : Secs w ao n l) (hy : Secs w bo m r) (hn : n ≤ 1048576) (hns : ∀ x ∈ l, x.n ≤ 1048576) :
    Calls Tryz.prog 38 #[.slice ao n cap, .slice bo m cb, .func (.func 39) #[] #[]] w fun e w' => e = .returned (.bool (sameL l r)) ∧ Below w.heap.size w w' := by
  have HZ := Lib.hid hz
  have HY := Lib.hid hy
  have HN := Lib.hid hns
  clear hz hy hns
  go_enter Tryz.func38, Tryz.ntmps38
  by_cases e3 : n = m
  case neg =>
    have e3' : ((n : Int) != (m : Int)) = true := by simp; omega
    have hr : sameL l r = false := by
      cases h : sameL l r
      · rfl
      · exact absurd (by rw [← HZ.out.len, ← HY.out.len, sameL_len _ _ h]) e3
    go_wp2
    go_ret
    exact ⟨by simp [hr], Below.refl _ _⟩
  subst e3
  go_wp2
  go_loopg [17] n (fun g s17 wx => ∃ i : Nat, i + g = n ∧ s17 = .int .i64 i ∧ Hid (Below w.heap.size w wx ∧ sameL (l.drop i) (r.drop i) = sameL l r))
  case atStart => exact ⟨0, by omega, rfl, Below.refl _ _, rfl⟩
  case round =>
    obtain ⟨i, hig, rfl, HR⟩ := hrel
    cases gk with
    | zero =>
      obtain rfl : i = n := by omega
      have hr : sameL l r = true := by
        rw [← HR.out.2, List.drop_eq_nil_of_le (by rw [HZ.out.len]; exact Nat.le_refl _), List.drop_eq_nil_of_le (by rw [HY.out.len]; exact Nat.le_refl _)]; rfl
      go_wp2
      go_ret
      exact ⟨by simp [hr], HR.out.1⟩
    | succ g =>
      have hi : (i : Int) < (n : Int) := by omega
      have hil : i < l.length := by rw [HZ.out.len]; omega
      have hir : i < r.length := by rw [HY.out.len]; omega
      obtain ⟨x, hx⟩ : ∃ x, l[i]? = some x := ⟨_, List.getElem?_eq_getElem hil⟩
      obtain ⟨y, hy⟩ : ∃ y, r[i]? = some y := ⟨_, List.getElem?_eq_getElem hir⟩
      have HS := Lib.hid (HZ.out.kept HR.out.1)
      have HT := Lib.hid (HY.out.kept HR.out.1)
      obtain ⟨b, off, rfl, hb, hc⟩ := HS.out.row (by omega)
      obtain ⟨b', off', rfl, hb', hc'⟩ := HT.out.row (by omega)
      obtain ⟨q0, q1, q2, q3⟩ := hc i x hx
      obtain ⟨p0, p1, p2, p3⟩ := hc' i y hy
      have hst := HR.out.2
      rw [sdrop hx, sdrop hy] at hst
      have HST := Lib.hid hst
      have HB := Lib.hid (Box4.start wr (.string x.c) (.string x.sv) (.string x.wd) (.slice x.ao x.n x.cap) 24)
      have HB2 := Lib.hid (Box4.start (wr.alloc (.cells #[.string x.c, .string x.sv, .string x.wd, .slice x.ao x.n x.cap] 24)) (.string y.c) (.string y.sv) (.string y.wd) (.slice y.ao y.n y.cap) 24)
      have HBO := Lib.hid (HB.out.next HB2.out.below)
      have k0 := HBO.out.k0
      have k1 := HBO.out.k1
      have k2 := HBO.out.k2
      have k3 := HBO.out.k3
      have hsz : (wr.alloc (.cells #[.string x.c, .string x.sv, .string x.wd, .slice x.ao x.n x.cap] 24)).heap.size = wr.heap.size + 1 := by simp
      have l0 := HB2.out.k0
      have l1 := HB2.out.k1
      have l2 := HB2.out.k2
      have l3 := HB2.out.k3
      rw [hsz] at l0 l1 l2 l3
      have p0' := (HB.out.below.cell (p := ⟨b', off' + i * 4, none⟩) hb').trans p0
      have p1' := (HB.out.below.cell (p := ⟨b', off' + i * 4 + 1, none⟩) hb').trans p1
      have p2' := (HB.out.below.cell (p := ⟨b', off' + i * 4 + 2, none⟩) hb').trans p2
      have p3' := (HB.out.below.cell (p := ⟨b', off' + i * 4 + 3, none⟩) hb').trans p3
      have HC := Lib.hid (same1_any x y _ ((HS.out.ints x (List.mem_of_getElem? hx)).kept HBO.out.below) ((HT.out.ints y (List.mem_of_getElem? hy)).kept HBO.out.below) (HN.out x (List.mem_of_getElem? hx)))
      have HW := Lib.hid (below_step HR.out.1 HBO.out.below)
      clear hst hc hc' hx hy hil hir hb hb'
      cases he : oneR x y
      · have hr : sameL l r = false := by rw [← HST.out]; simp [sameL, he]
        rw [he] at HC
        go_wp2_with (go_at_call 39; refine HC.out.mono ?_; rintro e w2 ⟨rfl, hb2⟩)
        go_ret
        exact ⟨by simp [hr], below_step HW.out hb2⟩
      · have hst : sameL (l.drop (i + 1)) (r.drop (i + 1)) = sameL l r := by rw [← HST.out]; simp [sameL, he]
        have HT2 := Lib.hid hst
        have hwr : wrap64 ((i : Int) + 1) = (i : Int) + 1 := by unfold wrap64; omega
        have HWR := Lib.hid hwr
        rw [he] at HC
        clear hst hwr
        go_wp2_with (go_at_call 39; refine HC.out.mono ?_; rintro e w2 ⟨rfl, hb2⟩)
        go_roundg g
        case measure => omega
        case rel => exact ⟨i + 1, by omega, by simp, below_step HW.out hb2, HT2.out⟩
set_option maxRecDepth 1000000 in
theorem same_any (ao bo : Option Addr) (n cap m cb : Nat) (l r : List Sec) (w : World) (hz : Secs w ao n l) (hy : Secs w bo m r) (hn : n ≤ 1048576) (hns : ∀ x ∈ l, x.n ≤ 1048576) :
    Calls Tryz.prog 17 #[.slice ao n cap, .slice bo m cb] w fun e w' => e = .returned (.bool (sameL l r)) ∧ Below w.heap.size w w' := by
  have HE := Lib.hid (equalf_any ao bo n cap m cb l r w hz hy hn hns)
  clear hz hy hns
  go_enter Tryz.func17, Tryz.ntmps17
  go_wp2_with (go_at_call 38; refine HE.out.mono ?_; rintro e w2 ⟨rfl, hb2⟩)
  go_ret
  exact ⟨by simp, hb2⟩
set_option maxRecDepth 1000000 in
set_option maxHeartbeats 1600000 in
theorem rsame_any (ao bo : Option Addr) (n cap m cb : Nat) (l r : List Sec) (w : World) (hz : Secs w ao n l) (hy : Secs w bo m r) (hn : n ≤ 1048576) (hns : ∀ x ∈ l, x.n ≤ 1048576) :
    Calls Tryz.prog 16 #[.slice ao n cap, .slice bo m cb] w fun e w' => e = .returned (.bool (sameL l r)) ∧ Below w.heap.size w w' := by
  have HZ := Lib.hid hz
  have HY := Lib.hid hy
  have HN := Lib.hid hns
  clear hz hy hns
  go_enter Tryz.func16, Tryz.ntmps16
  by_cases e3 : n = m
  case neg =>
    have e3' : ((n : Int) != (m : Int)) = true := by simp; omega
    have hr : sameL l r = false := by
      cases h : sameL l r
      · rfl
      · exact absurd (by rw [← HZ.out.len, ← HY.out.len, sameL_len _ _ h]) e3
    go_wp2
    go_ret
    exact ⟨by simp [hr], Below.refl _ _⟩
  subst e3
  go_wp2
  go_loopg [13] n (fun g s13 wx => ∃ i : Nat, i + g = n ∧ s13 = .int .i64 i ∧ Hid (Below w.heap.size w wx ∧ sameL (l.drop i) (r.drop i) = sameL l r))
  case atStart => exact ⟨0, by omega, rfl, Below.refl _ _, rfl⟩
  case round =>
    obtain ⟨i, hig, rfl, HR⟩ := hrel
    cases gk with
    | zero =>
      obtain rfl : i = n := by omega
      have hr : sameL l r = true := by
        rw [← HR.out.2, List.drop_eq_nil_of_le (by rw [HZ.out.len]; exact Nat.le_refl _), List.drop_eq_nil_of_le (by rw [HY.out.len]; exact Nat.le_refl _)]; rfl
      go_wp2
      go_ret
      exact ⟨by simp [hr], HR.out.1⟩
    | succ g =>
      have hi : (i : Int) < (n : Int) := by omega
      have hil : i < l.length := by rw [HZ.out.len]; omega
      have hir : i < r.length := by rw [HY.out.len]; omega
      obtain ⟨x, hx⟩ : ∃ x, l[i]? = some x := ⟨_, List.getElem?_eq_getElem hil⟩
      obtain ⟨y, hy⟩ : ∃ y, r[i]? = some y := ⟨_, List.getElem?_eq_getElem hir⟩
      have HS := Lib.hid (HZ.out.kept HR.out.1)
      have HT := Lib.hid (HY.out.kept HR.out.1)
      obtain ⟨b, off, rfl, hb, hc⟩ := HS.out.row (by omega)
      obtain ⟨b', off', rfl, hb', hc'⟩ := HT.out.row (by omega)
      obtain ⟨q0, q1, q2, q3⟩ := hc i x hx
      obtain ⟨p0, p1, p2, p3⟩ := hc' i y hy
      have hst := HR.out.2
      rw [sdrop hx, sdrop hy] at hst
      have HST := Lib.hid hst
      have HC := Lib.hid (fun w' (hb : Below wr.heap.size wr w') => one_any x y w' ((HS.out.ints x (List.mem_of_getElem? hx)).kept hb) ((HT.out.ints y (List.mem_of_getElem? hy)).kept hb) (HN.out x (List.mem_of_getElem? hx)))
      have HALL : Hid (∀ w', Hid (Below wr.heap.size wr w') → (w'.cell? ⟨b, off + i * 4, none⟩ = some (.string x.c) ∧ w'.cell? ⟨b, off + i * 4 + 1, none⟩ = some (.string x.sv) ∧ w'.cell? ⟨b, off + i * 4 + 2, none⟩ = some (.string x.wd) ∧ w'.cell? ⟨b, off + i * 4 + 3, none⟩ = some (.slice x.ao x.n x.cap) ∧
          w'.cell? ⟨b', off' + i * 4, none⟩ = some (.string y.c) ∧ w'.cell? ⟨b', off' + i * 4 + 1, none⟩ = some (.string y.sv) ∧ w'.cell? ⟨b', off' + i * 4 + 2, none⟩ = some (.string y.wd) ∧ w'.cell? ⟨b', off' + i * 4 + 3, none⟩ = some (.slice y.ao y.n y.cap) ∧ Hid (Below wr.heap.size wr w'))) := Lib.hid fun w' h => by
        have k := fun (a : Addr) (v : Value) (hv : wr.cell? a = some v) => (h.out.cell (World.block_lt_of_cell? _ _ hv)).trans hv
        exact ⟨k _ _ q0, k _ _ q1, k _ _ q2, k _ _ q3, k _ _ p0, k _ _ p1, k _ _ p2, k _ _ p3, h⟩
      have HSd : Hid (Below wr.heap.size wr wr.drew) := Lib.hid ⟨rfl, rfl, rfl, Nat.le_refl _, fun _ _ => rfl⟩
      have HRB := Lib.hid HR.out.1
      clear hst hc hc' hx hy hil hir hb hb' HR
      cases he : oneR x y
      · have hr : sameL l r = false := by rw [← HST.out]; simp [sameL, he]
        rw [he] at HC
        go_wp2
        go_region_held3 (fun w' => w'.cell? ⟨b, off + i * 4, none⟩ = some (.string x.c) ∧ w'.cell? ⟨b, off + i * 4 + 1, none⟩ = some (.string x.sv) ∧ w'.cell? ⟨b, off + i * 4 + 2, none⟩ = some (.string x.wd) ∧ w'.cell? ⟨b, off + i * 4 + 3, none⟩ = some (.slice x.ao x.n x.cap) ∧
            w'.cell? ⟨b', off' + i * 4, none⟩ = some (.string y.c) ∧ w'.cell? ⟨b', off' + i * 4 + 1, none⟩ = some (.string y.sv) ∧ w'.cell? ⟨b', off' + i * 4 + 2, none⟩ = some (.string y.wd) ∧ w'.cell? ⟨b', off' + i * 4 + 3, none⟩ = some (.slice y.ao y.n y.cap) ∧ Hid (Below wr.heap.size wr w'))
          (first | exact HALL.out _ HS2 | exact HALL.out _ HSd)
          (first | (go_at_call 12; (obtain ⟨_, _, _, _, _, _, _, _, HSx⟩ := ‹_ ∧ _ ∧ _ ∧ _ ∧ _ ∧ _ ∧ _ ∧ _ ∧ Hid _›); refine (HC.out _ HSx.out).mono ?_; rintro e w5 ⟨rfl, hb⟩; have HS2 := Lib.hid (below_step HSx.out hb); clear hb HSx))
        obtain ⟨_, _, _, _, _, _, _, _, HSx⟩ := ‹_ ∧ _ ∧ _ ∧ _ ∧ _ ∧ _ ∧ _ ∧ _ ∧ Hid _›
        go_wp2
        go_ret
        exact ⟨by simp [hr], below_step HRB.out HSx.out⟩
      · have hst : sameL (l.drop (i + 1)) (r.drop (i + 1)) = sameL l r := by rw [← HST.out]; simp [sameL, he]
        have HT2 := Lib.hid hst
        have hwr : wrap64 ((i : Int) + 1) = (i : Int) + 1 := by unfold wrap64; omega
        have HWR := Lib.hid hwr
        rw [he] at HC
        clear hst hwr
        go_wp2
        go_region_held3 (fun w' => w'.cell? ⟨b, off + i * 4, none⟩ = some (.string x.c) ∧ w'.cell? ⟨b, off + i * 4 + 1, none⟩ = some (.string x.sv) ∧ w'.cell? ⟨b, off + i * 4 + 2, none⟩ = some (.string x.wd) ∧ w'.cell? ⟨b, off + i * 4 + 3, none⟩ = some (.slice x.ao x.n x.cap) ∧
            w'.cell? ⟨b', off' + i * 4, none⟩ = some (.string y.c) ∧ w'.cell? ⟨b', off' + i * 4 + 1, none⟩ = some (.string y.sv) ∧ w'.cell? ⟨b', off' + i * 4 + 2, none⟩ = some (.string y.wd) ∧ w'.cell? ⟨b', off' + i * 4 + 3, none⟩ = some (.slice y.ao y.n y.cap) ∧ Hid (Below wr.heap.size wr w'))
          (first | exact HALL.out _ HS2 | exact HALL.out _ HSd)
          (first | (go_at_call 12; (obtain ⟨_, _, _, _, _, _, _, _, HSx⟩ := ‹_ ∧ _ ∧ _ ∧ _ ∧ _ ∧ _ ∧ _ ∧ _ ∧ Hid _›); refine (HC.out _ HSx.out).mono ?_; rintro e w5 ⟨rfl, hb⟩; have HS2 := Lib.hid (below_step HSx.out hb); clear hb HSx))
        obtain ⟨_, _, _, _, _, _, _, _, HSx⟩ := ‹_ ∧ _ ∧ _ ∧ _ ∧ _ ∧ _ ∧ _ ∧ _ ∧ Hid _›
        go_wp2
        go_roundg g
        case measure => omega
        case rel => exact ⟨i + 1, by omega, by simp, below_step HRB.out HSx.out, HT2.out⟩
end Go.Proofs.Sa
