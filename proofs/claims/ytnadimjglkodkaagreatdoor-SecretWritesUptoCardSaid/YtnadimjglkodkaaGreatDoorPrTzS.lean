/- secrets: spoil: a row of secrets of the call's own is written over; all else stays. -/
import Derived.Test.YtnadimjglkodkaaGreatDoorPrTzM
namespace Go.Proofs.Sa
open Go Go.RowKit Go.Pl Go.Maps
/-- Only blocks from B up to C have been written. -/
structure Only (B C : Nat) (w w' : World) : Prop where
  os : w'.os = w.os
  tape : w'.tape = w.tape
  output : w'.output = w.output
  size : w'.heap.size = w.heap.size
  far : ∀ k, k < B ∨ C ≤ k → w'.heap[k]? = w.heap[k]?
theorem Only.refl (B C : Nat) (w : World) : Only B C w w := ⟨rfl, rfl, rfl, rfl, fun _ _ => rfl⟩
theorem Only.set {B C : Nat} {w w' : World} (h : Only B C w w') {k o : Nat} (h1 : B ≤ k) (h2 : k < C) (v : Value) : Only B C w (w'.setCell ⟨k, o, none⟩ v) :=
  ⟨h.os, h.tape, h.output, by rw [setCell_size]; exact h.size, fun j hj => by rw [setCell_other (by omega)]; exact h.far j hj⟩
/-- What must stay while a row is written over. -/
structure Spl (B C g : Nat) (l : List Sec) (w wx : World) : Prop where
  only : Only B C w wx
  gb : B ≤ g ∧ g < C
  row : ∃ cur, wx.heap[g]? = some (.cells cur 93 (0, 0)) ∧ l.length * 4 ≤ cur.size ∧ ∀ (j : Nat) (y : Sec), l[j]? = some y → cur[j * 4 + 3]? = some (.slice y.ao y.n y.cap)
  nums : ∀ y ∈ l, 0 < y.n → ∃ b off cur, y.ao = some ⟨b, off, none⟩ ∧ B ≤ b ∧ b < C ∧ wx.heap[b]? = some (.cells cur 2 (0, 0)) ∧ off + y.n ≤ cur.size
theorem Spl.setNum {B C g : Nat} {l : List Sec} {w wx : World} (h : Spl B C g l w wx) {b o : Nat} {cur : Array Value} (h1 : B ≤ b) (h2 : b < C) (hb : wx.heap[b]? = some (.cells cur 2 (0, 0))) (v : Value) : Spl B C g l w (wx.setCell ⟨b, o, none⟩ v) := by
  have hne : g ≠ b := by
    rintro rfl
    obtain ⟨c, hc, _⟩ := h.row
    rw [hb] at hc
    simp at hc
  refine ⟨h.only.set h1 h2 v, h.gb, ?_, fun y hy hn => ?_⟩
  · obtain ⟨c, hc, hr⟩ := h.row
    exact ⟨c, (setCell_other hne v).trans hc, hr⟩
  · obtain ⟨b', off, c, e1, e2, e3, e4, e5⟩ := h.nums y hy hn
    by_cases he : b' = b
    · subst he
      rw [hb] at e4
      cases e4
      exact ⟨b', off, _, e1, e2, e3, setCell_same hb v, by simpa using e5⟩
    · exact ⟨b', off, c, e1, e2, e3, (setCell_other he v).trans e4, e5⟩
theorem Spl.setRow {B C g : Nat} {l : List Sec} {w wx : World} (h : Spl B C g l w wx) {o : Nat} (ho : o % 4 ≠ 3) (v : Value) : Spl B C g l w (wx.setCell ⟨g, o, none⟩ v) := by
  obtain ⟨c, hc, hl, hr⟩ := h.row
  refine ⟨h.only.set h.gb.1 h.gb.2 v, h.gb, ⟨_, setCell_same hc v, by simpa using hl, fun j y hy => ?_⟩, fun y hy hn => ?_⟩
  · rw [Array.getElem?_setIfInBounds_ne (by omega)]
    exact hr j y hy
  · obtain ⟨b, off, c', e1, e2, e3, e4, e5⟩ := h.nums y hy hn
    have hne : b ≠ g := by
      rintro rfl
      rw [hc] at e4
      simp at e4
    exact ⟨b, off, c', e1, e2, e3, (setCell_other hne v).trans e4, e5⟩
theorem Spl.slice {B C g : Nat} {l : List Sec} {w wx : World} (h : Spl B C g l w wx) {i : Nat} {y : Sec} (hy : l[i]? = some y) : wx.cell? ⟨g, i * 4 + 3, none⟩ = some (.slice y.ao y.n y.cap) := by
  obtain ⟨c, hc, _, hr⟩ := h.row
  simp only [World.cell?, hc]
  exact hr i y hy
theorem Spl.there {B C g : Nat} {l : List Sec} {w wx : World} (h : Spl B C g l w wx) {o : Nat} (ho : o < l.length * 4) : (∃ u, wx.cell? ⟨g, o, none⟩ = some u) ∧ wx.frozen? ⟨g, o, none⟩ = false := by
  obtain ⟨c, hc, hl, _⟩ := h.row
  refine ⟨⟨_, by simp only [World.cell?, hc]; exact Array.getElem?_eq_getElem (by omega)⟩, by simp [World.frozen?, hc]⟩
theorem Spl.num {B C g : Nat} {l : List Sec} {w wx : World} (h : Spl B C g l w wx) {y : Sec} (hy : y ∈ l) {j : Nat} (hj : j < y.n) :
    ∃ b off, y.ao = some ⟨b, off, none⟩ ∧ (∃ u, wx.cell? ⟨b, off + j, none⟩ = some u) ∧ wx.frozen? ⟨b, off + j, none⟩ = false ∧ Spl B C g l w (wx.setCell ⟨b, off + j, none⟩ (.int .i64 (-5))) := by
  obtain ⟨b, off, cur, e1, e2, e3, e4, e5⟩ := h.nums y hy (by omega)
  exact ⟨b, off, e1, ⟨_, by simp only [World.cell?, e4]; exact Array.getElem?_eq_getElem (show off + j < cur.size by omega)⟩, by simp [World.frozen?, e4], h.setNum e2 e3 e4 _⟩
set_option maxRecDepth 1000000 in
set_option maxHeartbeats 3200000 in
theorem spoil_any (B C g cap : Nat) (l : List Sec) (w : World) (h : Spl B C g l w w) (hn : l.length ≤ 1048576) (hns : ∀ y ∈ l, y.n ≤ 1048576) : Calls Tryz.prog 25 #[.slice (some ⟨g, 0, none⟩) l.length cap] w fun e w' => e = .returned (.tuple #[]) ∧ Only B C w w' := by
  have H0 := Lib.hid h
  have HN := Lib.hid hns
  clear h hns
  generalize hm : l.length = n at *
  have HM := Lib.hid hm
  clear hm
  go_enter Tryz.func25, Tryz.ntmps25
  go_wp2
  go_loopg [6] n (fun r s6 wx => ∃ i : Nat, i + r = n ∧ s6 = .int .i64 i ∧ Hid (Spl B C g l w wx))
  case atStart => exact ⟨0, by omega, rfl, H0⟩
  case round =>
    obtain ⟨i, hig, rfl, HR⟩ := hrel
    cases gk with
    | zero =>
      obtain rfl : i = n := by omega
      go_wp2
      go_end0
      exact ⟨rfl, HR.out.only⟩
    | succ r =>
      have hi : (i : Int) < (n : Int) := by omega
      have hil : i < l.length := by rw [HM.out]; omega
      obtain ⟨y, hy⟩ : ∃ y, l[i]? = some y := ⟨_, List.getElem?_eq_getElem hil⟩
      have HY := Lib.hid hy
      have hyn := HN.out y (List.mem_of_getElem? hy)
      clear hy hil
      have q3 := HR.out.slice HY.out
      have hwr : wrap64 ((i : Int) + 1) = (i : Int) + 1 := by unfold wrap64; omega
      have HWR := Lib.hid hwr
      clear hwr
      go_wp2
      go_loopg [15] y.n (fun r2 s15 wx => ∃ j : Nat, j + r2 = y.n ∧ s15 = .int .i64 j ∧ Hid (Spl B C g l w wx))
      case atStart => exact ⟨0, by omega, rfl, HR⟩
      case round =>
        obtain ⟨j, hjr, rfl, HR2⟩ := hrel
        clear q3
        cases gk with
        | zero =>
          obtain rfl : j = y.n := by omega
          have hil : i < l.length := by rw [HM.out]; omega
          obtain ⟨⟨u0, t0⟩, f0⟩ := HR2.out.there (o := i * 4 + 2) (by omega)
          obtain ⟨⟨u1, t1⟩, f1⟩ := (HR2.out.setRow (o := i * 4 + 2) (by omega) (.string ⟨#[115, 112, 111, 105, 108, 116]⟩)).there (o := i * 4) (by omega)
          have HE := Lib.hid ((HR2.out.setRow (o := i * 4 + 2) (by omega) (.string ⟨#[115, 112, 111, 105, 108, 116]⟩)).setRow (o := i * 4) (by omega) (.string ⟨#[115, 112, 111, 105, 108, 116]⟩))
          clear hil
          go_wp2
          go_roundg r
          case measure => omega
          case rel => exact ⟨i + 1, by omega, by simp, HE⟩
        | succ r2 =>
          have hj : (j : Int) < (y.n : Int) := by omega
          have q3 := HR2.out.slice HY.out
          obtain ⟨b, off, e1, ⟨u0, t0⟩, f0, he⟩ := HR2.out.num (List.mem_of_getElem? HY.out) (show j < y.n by omega)
          rw [e1] at q3
          have HE := Lib.hid he
          have hwr : wrap64 ((j : Int) + 1) = (j : Int) + 1 := by unfold wrap64; omega
          have HWR2 := Lib.hid hwr
          clear hwr e1 he
          go_wp2
          go_roundg r2
          case measure => omega
          case rel => exact ⟨j + 1, by omega, by simp, HE⟩
end Go.Proofs.Sa
