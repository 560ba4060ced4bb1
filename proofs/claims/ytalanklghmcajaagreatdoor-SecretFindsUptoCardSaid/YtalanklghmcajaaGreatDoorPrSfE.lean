/- secrets: Find, Check of a table. -/
import Derived.Test.YtalanklghmcajaaGreatDoorPrSfD
namespace Go.Proofs.Sa
open Go Go.RowKit Go.Pl
set_option maxRecDepth 1000000 in
set_option maxHeartbeats 1600000 in
theorem tfind_any (t : Nat) (ao : Option Addr) (n cap : Nat) (l : List Sec) (cl sv : ByteArray) (w : World) (ht : TabT w t ao n cap l) (hn : n ≤ 1048576) : Calls Tryz.prog 23 #[.pointer (some ⟨t, 0, none⟩), .string cl, .string sv] w fun e w' => Found l cl sv w e w' := by
  have hal : Below w.heap.size w (w.alloc (.cells zeroS 24)) := (Below.refl _ _).alloc (Nat.le_refl _) _
  have h2 := ht.kept hal
  have k0 := ht.cell
  have k1 := h2.cell
  have HF := Lib.hid (find_any ao n cap l cl sv _ h2.rows hn)
  have hz : (w.alloc (.cells zeroS 24)).heap[w.heap.size]? = some (.cells zeroS 24 (0, 0)) := heap_alloc_new w _
  have HZ := Lib.hid hz
  clear h2 ht hz hal
  obtain ⟨y, ok, hF⟩ : ∃ y ok, foundR l cl sv = (y, ok) := ⟨_, _, rfl⟩
  have HE := Lib.hid hF
  clear hF
  unfold Found
  rw [HE.out]
  go_enter Tryz.func23, Tryz.ntmps23
  go_wp2_with (
    go_at_call 14
    refine HF.out.mono ?_
    rintro e w5 ⟨ao', cap', rfl, hi5, hb5, hf5⟩
    rw [HE.out] at hi5 ⊢
    simp only at hi5 ⊢
    have hlt : w.heap.size < (w.alloc (.cells zeroS 24)).heap.size := by simp
    have hz5 := (hb5.block _ hlt).trans HZ.out
    have y0 : w5.frozen? ⟨w.heap.size, 0, none⟩ = false := by simp [World.frozen?, hz5]
    have y1 : w5.frozen? ⟨w.heap.size, 1, none⟩ = false := by simp [World.frozen?, hz5]
    have y2 : w5.frozen? ⟨w.heap.size, 2, none⟩ = false := by simp [World.frozen?, hz5]
    have y3 : w5.frozen? ⟨w.heap.size, 3, none⟩ = false := by simp [World.frozen?, hz5]
    have z0 : w5.cell? ⟨w.heap.size, 0, none⟩ = some (.string ⟨#[]⟩) := by simp [World.cell?, hz5]
    have z1 : w5.cell? ⟨w.heap.size, 1, none⟩ = some (.string ⟨#[]⟩) := by simp [World.cell?, hz5]
    have z2 : w5.cell? ⟨w.heap.size, 2, none⟩ = some (.string ⟨#[]⟩) := by simp [World.cell?, hz5]
    have z3 : w5.cell? ⟨w.heap.size, 3, none⟩ = some (.slice none 0 0) := by simp [World.cell?, hz5]
    have HZ5 := Lib.hid hz5
    have HI5 := Lib.hid hi5
    have HF5 := Lib.hid (hf5.mono (base' := w.heap.size + 1) (by simp))
    have HB5 := Lib.hid (((Below.refl _ _).alloc (Nat.le_refl _) _).trans (hb5.mono (by simp : w.heap.size ≤ _)))
    clear hz5 hi5 hb5 hf5 hlt)
  have f3 := setCell_same (o := 3) (setCell_same (o := 2) (setCell_same (o := 1) (setCell_same (o := 0) HZ5.out (.string y.c)) (.string y.sv)) (.string y.wd)) (.slice ao' y.n cap')
  refine bodyPost_ret (results_cell_row_tmp rfl _ _ w.heap.size 24 #[.string y.c, .string y.sv, .string y.wd, .slice ao' y.n cap'] (0, 0) _ rfl (by simpa using f3) Tryz.underlying24 rfl (by kernel_rfl)) rfl ?_
  have hne : ∀ a, ao' = some a → a.block ≠ w.heap.size := fun a ha => by have := (HF5.out a ha).1; omega
  refine ⟨ao', cap', rfl, ?_, ?_, ((((HF5.out.setCell hne _).setCell hne _).setCell hne _).setCell hne _).mono (by omega)⟩
  · exact (((HI5.out.setCell hne _).setCell hne _).setCell hne _).setCell hne _
  · exact setCell_below (setCell_below (setCell_below (setCell_below HB5.out (Nat.le_refl _) _) (Nat.le_refl _) _) (Nat.le_refl _) _) (Nat.le_refl _) _
set_option maxRecDepth 1000000 in
set_option maxHeartbeats 1600000 in
theorem check_any (t : Nat) (ao : Option Addr) (n cap : Nat) (l : List Sec) (cl sv word : ByteArray) (w : World) (ht : TabT w t ao n cap l) (hn : n ≤ 1048576) : Calls Tryz.prog 24 #[.pointer (some ⟨t, 0, none⟩), .string cl, .string sv, .string word] w fun e w' => e = .returned (.int .i64 (checkR l cl sv word)) ∧ Below w.heap.size w w' := by
  have HF := Lib.hid (tfind_any t ao n cap l cl sv w ht hn)
  clear ht
  obtain ⟨y, ok, hF⟩ : ∃ y ok, foundR l cl sv = (y, ok) := ⟨_, _, rfl⟩
  have HE := Lib.hid hF
  have hck : checkR l cl sv word = checkF y ok word := by unfold checkR; rw [hF]
  rw [hck]
  clear hF hck
  cases ok with
  | false =>
    go_enter Tryz.func24, Tryz.ntmps24
    go_wp2_with (go_at_call 23; refine HF.out.mono ?_; rintro e w2 ⟨ao', cap', rfl, _, hb2, _⟩; rw [HE.out]; simp only)
    go_ret
    exact ⟨by simp [checkF], hb2.alloc hb2.size _⟩
  | true =>
    cases h1 : (y.wd.toList == []) <;> cases h2 : (y.wd.toList == word.toList) <;>
      (go_enter Tryz.func24, Tryz.ntmps24
       go_wp2_with (go_at_call 23; refine HF.out.mono ?_; rintro e w2 ⟨ao', cap', rfl, _, hb2, _⟩; rw [HE.out]; simp only)
       go_ret
       exact ⟨by simp [checkF, checkF.starless, sameB, h1, h2], hb2.alloc hb2.size _⟩)
end Go.Proofs.Sa
