/- secrets: Same, by either side. -/
import Derived.Deep.RegionHeld3
import Derived.Test.YtnadimjglkodkaaGreatDoorPrTzJ
namespace Go.Proofs.Sa
open Go Go.RowKit Go.Pl
/-- Rows of secrets that are the same. -/
def sameL : List Sec → List Sec → Bool
  | [], [] => true
  | x :: l, y :: m => oneR x y && sameL l m
  | _, _ => false
theorem sameL_len : ∀ (l m : List Sec), sameL l m = true → l.length = m.length
  | [], [], _ => rfl
  | x :: l, y :: m, h => by
    simp only [sameL, Bool.and_eq_true] at h
    simp [sameL_len l m h.2]
  | [], _ :: _, h => by cases h
  | _ :: _, [], h => by cases h
theorem sdrop {l : List Sec} {i : Nat} {x : Sec} (hx : l[i]? = some x) : l.drop i = x :: l.drop (i + 1) := by
  obtain ⟨h2, h3⟩ := List.getElem?_eq_some_iff.1 hx
  rw [List.drop_eq_getElem_cons h2, h3]
set_option maxRecDepth 1000000 in
set_option maxHeartbeats 1600000 in
theorem rsame_any (ao bo : Option Addr) (n cap m cb : Nat) (l r : List Sec) (w : World) (hz : Secs w ao n l) (hy : Secs w bo m r) (hn : n ≤ 1048576) (hns : ∀ x ∈ l, x.n ≤ 1048576) :
    Calls Tryz.prog 24 #[.slice ao n cap, .slice bo m cb] w fun e w' => e = .returned (.bool (sameL l r)) ∧ Below w.heap.size w w' := by
  have HZ := Lib.hid hz
  have HY := Lib.hid hy
  have HN := Lib.hid hns
  clear hz hy hns
  go_enter Tryz.func24, Tryz.ntmps24
  by_cases e3 : n = m
  case neg =>
    have e3' : ((n : Int) != (m : Int)) = true := by simp; omega
    have hr : sameL l r = false := by
      cases h : sameL l r
      · rfl
      · exact absurd (by rw [← HZ.out.len, ← HY.out.len, sameL_len _ _ h]) e3
    go_wp2
    go_ret
    exact ⟨by simp [hr], Below.refl _ _⟩
  subst e3
  go_wp2
  go_loopg [13] n (fun g s13 wx => ∃ i : Nat, i + g = n ∧ s13 = .int .i64 i ∧ Hid (Below w.heap.size w wx ∧ sameL (l.drop i) (r.drop i) = sameL l r))
  case atStart => exact ⟨0, by omega, rfl, Below.refl _ _, rfl⟩
  case round =>
    obtain ⟨i, hig, rfl, HR⟩ := hrel
    cases gk with
    | zero =>
      obtain rfl : i = n := by omega
      have hr : sameL l r = true := by
        rw [← HR.out.2, List.drop_eq_nil_of_le (by rw [HZ.out.len]; exact Nat.le_refl _), List.drop_eq_nil_of_le (by rw [HY.out.len]; exact Nat.le_refl _)]; rfl
      go_wp2
      go_ret
      exact ⟨by simp [hr], HR.out.1⟩
    | succ g =>
      have hi : (i : Int) < (n : Int) := by omega
      have hil : i < l.length := by rw [HZ.out.len]; omega
      have hir : i < r.length := by rw [HY.out.len]; omega
      obtain ⟨x, hx⟩ : ∃ x, l[i]? = some x := ⟨_, List.getElem?_eq_getElem hil⟩
      obtain ⟨y, hy⟩ : ∃ y, r[i]? = some y := ⟨_, List.getElem?_eq_getElem hir⟩
      have HS := Lib.hid (HZ.out.kept HR.out.1)
      have HT := Lib.hid (HY.out.kept HR.out.1)
      obtain ⟨b, off, rfl, hb, hc⟩ := HS.out.row (by omega)
      obtain ⟨b', off', rfl, hb', hc'⟩ := HT.out.row (by omega)
      obtain ⟨q0, q1, q2, q3⟩ := hc i x hx
      obtain ⟨p0, p1, p2, p3⟩ := hc' i y hy
      have hst := HR.out.2
      rw [sdrop hx, sdrop hy] at hst
      have HST := Lib.hid hst
      have HC := Lib.hid (fun w' (hb : Below wr.heap.size wr w') => one_any x y w' ((HS.out.ints x (List.mem_of_getElem? hx)).kept hb) ((HT.out.ints y (List.mem_of_getElem? hy)).kept hb) (HN.out x (List.mem_of_getElem? hx)))
      have HALL : Hid (∀ w', Hid (Below wr.heap.size wr w') → (w'.cell? ⟨b, off + i * 4, none⟩ = some (.string x.c) ∧ w'.cell? ⟨b, off + i * 4 + 1, none⟩ = some (.string x.sv) ∧ w'.cell? ⟨b, off + i * 4 + 2, none⟩ = some (.string x.wd) ∧ w'.cell? ⟨b, off + i * 4 + 3, none⟩ = some (.slice x.ao x.n x.cap) ∧
          w'.cell? ⟨b', off' + i * 4, none⟩ = some (.string y.c) ∧ w'.cell? ⟨b', off' + i * 4 + 1, none⟩ = some (.string y.sv) ∧ w'.cell? ⟨b', off' + i * 4 + 2, none⟩ = some (.string y.wd) ∧ w'.cell? ⟨b', off' + i * 4 + 3, none⟩ = some (.slice y.ao y.n y.cap) ∧ Hid (Below wr.heap.size wr w'))) := Lib.hid fun w' h => by
        have k := fun (a : Addr) (v : Value) (hv : wr.cell? a = some v) => (h.out.cell (World.block_lt_of_cell? _ _ hv)).trans hv
        exact ⟨k _ _ q0, k _ _ q1, k _ _ q2, k _ _ q3, k _ _ p0, k _ _ p1, k _ _ p2, k _ _ p3, h⟩
      have HSd : Hid (Below wr.heap.size wr wr.drew) := Lib.hid ⟨rfl, rfl, rfl, Nat.le_refl _, fun _ _ => rfl⟩
      have HRB := Lib.hid HR.out.1
      clear hst hc hc' hx hy hil hir hb hb' HR
      cases he : oneR x y
      · have hr : sameL l r = false := by rw [← HST.out]; simp [sameL, he]
        rw [he] at HC
        go_wp2
        go_region_held3 (fun w' => w'.cell? ⟨b, off + i * 4, none⟩ = some (.string x.c) ∧ w'.cell? ⟨b, off + i * 4 + 1, none⟩ = some (.string x.sv) ∧ w'.cell? ⟨b, off + i * 4 + 2, none⟩ = some (.string x.wd) ∧ w'.cell? ⟨b, off + i * 4 + 3, none⟩ = some (.slice x.ao x.n x.cap) ∧
            w'.cell? ⟨b', off' + i * 4, none⟩ = some (.string y.c) ∧ w'.cell? ⟨b', off' + i * 4 + 1, none⟩ = some (.string y.sv) ∧ w'.cell? ⟨b', off' + i * 4 + 2, none⟩ = some (.string y.wd) ∧ w'.cell? ⟨b', off' + i * 4 + 3, none⟩ = some (.slice y.ao y.n y.cap) ∧ Hid (Below wr.heap.size wr w'))
          (first | exact HALL.out _ HS2 | exact HALL.out _ HSd)
          (first | (go_at_call 50; (obtain ⟨_, _, _, _, _, _, _, _, HSx⟩ := ‹_ ∧ _ ∧ _ ∧ _ ∧ _ ∧ _ ∧ _ ∧ _ ∧ Hid _›); refine (HC.out _ HSx.out).mono ?_; rintro e w5 ⟨rfl, hb⟩; have HS2 := Lib.hid (below_step HSx.out hb); clear hb HSx))
        obtain ⟨_, _, _, _, _, _, _, _, HSx⟩ := ‹_ ∧ _ ∧ _ ∧ _ ∧ _ ∧ _ ∧ _ ∧ _ ∧ Hid _›
        go_wp2
        go_ret
        exact ⟨by simp [hr], below_step HRB.out HSx.out⟩
      · have hst : sameL (l.drop (i + 1)) (r.drop (i + 1)) = sameL l r := by rw [← HST.out]; simp [sameL, he]
        have HT2 := Lib.hid hst
        have hwr : wrap64 ((i : Int) + 1) = (i : Int) + 1 := by unfold wrap64; omega
        have HWR := Lib.hid hwr
        rw [he] at HC
        clear hst hwr
        go_wp2
        go_region_held3 (fun w' => w'.cell? ⟨b, off + i * 4, none⟩ = some (.string x.c) ∧ w'.cell? ⟨b, off + i * 4 + 1, none⟩ = some (.string x.sv) ∧ w'.cell? ⟨b, off + i * 4 + 2, none⟩ = some (.string x.wd) ∧ w'.cell? ⟨b, off + i * 4 + 3, none⟩ = some (.slice x.ao x.n x.cap) ∧
            w'.cell? ⟨b', off' + i * 4, none⟩ = some (.string y.c) ∧ w'.cell? ⟨b', off' + i * 4 + 1, none⟩ = some (.string y.sv) ∧ w'.cell? ⟨b', off' + i * 4 + 2, none⟩ = some (.string y.wd) ∧ w'.cell? ⟨b', off' + i * 4 + 3, none⟩ = some (.slice y.ao y.n y.cap) ∧ Hid (Below wr.heap.size wr w'))
          (first | exact HALL.out _ HS2 | exact HALL.out _ HSd)
          (first | (go_at_call 50; (obtain ⟨_, _, _, _, _, _, _, _, HSx⟩ := ‹_ ∧ _ ∧ _ ∧ _ ∧ _ ∧ _ ∧ _ ∧ _ ∧ Hid _›); refine (HC.out _ HSx.out).mono ?_; rintro e w5 ⟨rfl, hb⟩; have HS2 := Lib.hid (below_step HSx.out hb); clear hb HSx))
        obtain ⟨_, _, _, _, _, _, _, _, HSx⟩ := ‹_ ∧ _ ∧ _ ∧ _ ∧ _ ∧ _ ∧ _ ∧ _ ∧ Hid _›
        go_wp2
        go_roundg g
        case measure => omega
        case rel => exact ⟨i + 1, by omega, by simp, below_step HRB.out HSx.out, HT2.out⟩
end Go.Proofs.Sa
