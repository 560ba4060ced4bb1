/- secrets: own. -/
import Derived.Test.YtnadimjglkodkaaGreatDoorPrTzD
import Derived.Test.YtnadimjglkodkaaGreatDoorPrTzShelf
namespace Go.Proofs.Sa
open Go Go.RowKit Go.Pl
theorem info2 : (Tryz.prog.info? 2).map (fun i => (i.zero, i.size, i.bytes)) = some (some (.int .i64 0), 1, 8) := by kernel_rfl
theorem size2 (w : World) : (sizeOf 2).run Tryz.prog w = .ok 1 w := by kernel_rfl
set_option maxRecDepth 1000000 in
/-- slices.Clone of no numbers, wherever they lie. -/
theorem clone_none (a : Addr) (cap : Nat) (zs : List Int) (w : World) (hz : Ints w (some a) 0 zs) : Calls Tryz.prog 94 #[.slice (some a) 0 cap] w fun e w' =>
    ∃ ao' cap', e = .returned (.slice ao' 0 cap') ∧ Ints w' ao' 0 zs ∧ Below w.heap.size w w' ∧ OwnI w.heap.size w' ao' := by
  obtain ⟨i0, hi, hz0, hz1, hz2⟩ := info_parts info2
  obtain rfl : zs = [] := List.length_eq_zero_iff.1 hz.len
  have q22 : ∀ (w : World) (a : Option Addr) (n c n' c' : Nat), (binOp .eql 22 (.slice a n c) (.slice none n' c')).run Tryz.prog w = .ok (.bool a.isNone) w := fun w a n c n' c' => Lib.run_eql_slice_nil w _ _ a n c n' c' Tryz.underlying22
  go_enter Tryz.func94, Tryz.ntmps94
  go_wp2_with (at_builtin; refine wpList_append_own _ rfl _ _ 22 rfl w.heap.size 2 i0 (.int .i64 0) 1 8 Tryz.underlying22 hi hz0 hz1 hz2 rfl (by decide) _ 0 [] rfl (World.ownsRow_made w #[] 0 (Nat.le_refl _) (Nat.zero_le _) (by simp)) a 0 cap [] rfl rfl (fun j u hj => by simp at hj) (fun u hu => by cases hu) (by unfold maxLen; omega) (by omega) (by simp) ?_; intro v' w1 hown hgrow _)
  go_ret
  obtain ⟨ao', cap', rfl, h1, h2, _⟩ := ints_own_t (zs := []) (by simpa using hown) (fun z hz => by cases hz)
  exact ⟨ao', ⟨cap', rfl⟩, h1, ((Below.refl _ w).alloc (Nat.le_refl _) _).grown hgrow (by simp) (by intro k hk; cases hk; exact Nat.le_refl _), h2⟩
/-- slices.Clone of whole numbers. -/
theorem clone_any (ao : Option Addr) (n cap : Nat) (zs : List Int) (w : World) (hz : Ints w ao n zs) (hn : n ≤ 1048576) : Calls Tryz.prog 94 #[.slice ao n cap] w fun e w' =>
    ∃ ao' cap', e = .returned (.slice ao' n cap') ∧ Ints w' ao' n zs ∧ Below w.heap.size w w' ∧ OwnI w.heap.size w' ao' := by
  obtain ⟨i0, hi, hz0, hz1, hz2⟩ := info_parts info2
  cases ao with
  | none =>
    obtain rfl : n = 0 := by
      rcases Nat.eq_zero_or_pos n with h | h
      · exact h
      · obtain ⟨b, off, h1, _⟩ := hz.row h
        cases h1
    refine (Tryz.slices_Clone_nil 0 cap w).mono ?_
    rintro e w' ⟨rfl, rfl⟩
    exact ⟨none, 0, rfl, hz, Below.refl _ _, fun a ha => by cases ha⟩
  | some a =>
    rcases Nat.eq_zero_or_pos n with rfl | hpos
    · exact clone_none a cap zs w hz
    obtain ⟨b, off, ha, _⟩ := hz.row hpos
    cases ha
    have hc : ∀ (j : Nat) u, (zs.map (Value.int .i64))[j]? = some u → w.cell? ⟨b, off + j, none⟩ = some u := fun j u hu => by
      rw [List.getElem?_map] at hu
      have hj : j < zs.length := by
        rcases Nat.lt_or_ge j zs.length with h | h
        · exact h
        · rw [List.getElem?_eq_none h] at hu; cases hu
      have hl := hz.len
      obtain ⟨b', off', h1, _, h3⟩ := hz.row (by omega)
      cases h1
      rw [h3 j (by omega)]
      rw [List.getElem?_eq_getElem hj] at hu
      simp only [Option.map_some, Option.some.injEq] at hu
      subst hu
      simp [List.getD, List.getElem?_eq_getElem hj]
    refine (Tryz.slices_Clone i0 (.int .i64 0) 1 8 hi hz0 hz1 hz2 rfl (by decide) size2 b off n cap (zs.map (Value.int .i64)) w (by rw [List.length_map, hz.len, Nat.mul_one]) (by unfold maxLen; omega) (by omega) hc (fun u hu => by obtain ⟨z, _, rfl⟩ := List.mem_map.1 hu; rfl)).mono ?_
    rintro e w' ⟨v', rfl, ho, _, hb⟩
    obtain ⟨ao', cap', rfl, h1, h2, _⟩ := ints_own_t ho hz.wf
    exact ⟨ao', cap', rfl, h1, hb, h2⟩
/-- Two new blocks of four cells each, later. -/
theorem two_blocks {w w3 : World} {x y : Array Value} {t : TypeId} (h : Below ((w.alloc (.cells x t)).alloc (.cells y t)).heap.size ((w.alloc (.cells x t)).alloc (.cells y t)) w3) :
    w3.heap[w.heap.size]? = some (.cells x t (0, 0)) ∧ w3.heap[w.heap.size + 1]? = some (.cells y t (0, 0)) ∧ Below w.heap.size w w3 ∧ w.heap.size + 2 ≤ w3.heap.size := by
  have hs : ((w.alloc (.cells x t)).alloc (.cells y t)).heap.size = w.heap.size + 2 := by simp
  rw [hs] at h
  refine ⟨(h.block _ (by omega)).trans ?_, (h.block _ (by omega)).trans ?_, ((((Below.refl _ _).alloc (Nat.le_refl _) _).alloc (by simp) _).trans (h.mono (by omega))), by rw [← hs]; exact h.size⟩
  · simp [World.alloc, -World.alloc_eq, Array.getElem?_push]
  · have : w.heap.size + 1 = (w.heap.push (Obj.cells x t)).size := by simp
    show ((w.heap.push (Obj.cells x t)).push (Obj.cells y t))[w.heap.size + 1]? = _
    rw [this, Array.getElem?_push_size]
set_option maxRecDepth 1000000 in
set_option maxHeartbeats 1600000 in
theorem own_any (c sv wd : ByteArray) (ao : Option Addr) (n cap : Nat) (zs : List Int) (w : World) (hz : Ints w ao n zs) (hn : n ≤ 1048576) : Calls Tryz.prog 79 #[.agg #[.string c, .string sv, .string wd, .slice ao n cap]] w fun e w' =>
    ∃ ao' cap', e = .returned (.agg #[.string c, .string sv, .string wd, .slice ao' n cap']) ∧ Ints w' ao' n zs ∧ Below w.heap.size w w' ∧ OwnI w.heap.size w' ao' := by
  have HC := Lib.hid (fun w2 (hb : Below w.heap.size w w2) => clone_any ao n cap zs w2 (hz.kept hb) hn)
  clear hz
  go_enter Tryz.func79, Tryz.ntmps79
  go_upto_region 2 with (
    go_at_call 94
    refine (HC.out _ (((Below.refl _ _).alloc (Nat.le_refl _) _).alloc (by simp) _)).mono ?_
    rintro e w3 ⟨ao', cap', rfl, hi3, hb3, hf3⟩
    obtain ⟨h0, h1, hb, hs⟩ := two_blocks hb3
    have hk : w3.cell? ⟨w.heap.size, 3, none⟩ = some (.slice ao n cap) := by simp [World.cell?, h0]
    have hfz : w3.frozen? ⟨w.heap.size, 3, none⟩ = false := by simp [World.frozen?, h0]
    have HI := Lib.hid hi3
    have HF := Lib.hid hf3
    have H0 := Lib.hid h0
    have H1 := Lib.hid h1
    have HB := Lib.hid hb
    have HS := Lib.hid hs
    clear hi3 hb3 hf3 h0 h1 hb hs)
  have g0 := setCell_same (o := 3) H0.out (.slice ao' n cap')
  have g1 := (setCell_other (w := w3) (k := w.heap.size) (j := w.heap.size + 1) (o := 3) (by omega) (.slice ao' n cap')).trans H1.out
  have gb := setCell_below (o := 3) HB.out (Nat.le_refl w.heap.size) (.slice ao' n cap')
  have gz := setCell_size w3 ⟨w.heap.size, 3, none⟩ (.slice ao' n cap')
  have gi : Ints (w3.setCell ⟨w.heap.size, 3, none⟩ (.slice ao' n cap')) ao' n zs := HI.out.setCell (fun a ha => by have := (HF.out a ha).1; simp at this; omega) _
  have gw : OwnI (w.heap.size + 2) (w3.setCell ⟨w.heap.size, 3, none⟩ (.slice ao' n cap')) ao' := (HF.out.mono (by simp)).setCell (fun a ha => by have := (HF.out a ha).1; simp at this; omega) _
  generalize w3.setCell ⟨w.heap.size, 3, none⟩ (.slice ao' n cap') = w4 at *
  have a0 : w4.cell? ⟨w.heap.size, 0, none⟩ = some (.string c) := by simp [World.cell?, g0]
  have a1 : w4.cell? ⟨w.heap.size, 1, none⟩ = some (.string sv) := by simp [World.cell?, g0]
  have a2 : w4.cell? ⟨w.heap.size, 2, none⟩ = some (.string wd) := by simp [World.cell?, g0]
  have a3 : w4.cell? ⟨w.heap.size, 3, none⟩ = some (.slice ao' n cap') := by simp [World.cell?, g0]
  have z0 : w4.cell? ⟨w.heap.size + 1, 0, none⟩ = some (.string ⟨#[]⟩) := by simp [World.cell?, g1]
  have z1 : w4.cell? ⟨w.heap.size + 1, 1, none⟩ = some (.string ⟨#[]⟩) := by simp [World.cell?, g1]
  have z2 : w4.cell? ⟨w.heap.size + 1, 2, none⟩ = some (.string ⟨#[]⟩) := by simp [World.cell?, g1]
  have z3 : w4.cell? ⟨w.heap.size + 1, 3, none⟩ = some (.slice none 0 0) := by simp [World.cell?, g1]
  have y0 : w4.frozen? ⟨w.heap.size + 1, 0, none⟩ = false := by simp [World.frozen?, g1]
  have y1 : w4.frozen? ⟨w.heap.size + 1, 1, none⟩ = false := by simp [World.frozen?, g1]
  have y2 : w4.frozen? ⟨w.heap.size + 1, 2, none⟩ = false := by simp [World.frozen?, g1]
  have y3 : w4.frozen? ⟨w.heap.size + 1, 3, none⟩ = false := by simp [World.frozen?, g1]
  have G1 := Lib.hid g1
  have GB := Lib.hid gb
  have GI := Lib.hid gi
  have GW := Lib.hid gw
  clear g0 g1 gb gi gw gz hk hfz H0 H1
  go_wp2
  have f0 := setCell_same (o := 0) G1.out (.string c)
  have f1 := setCell_same (o := 1) f0 (.string sv)
  have f2 := setCell_same (o := 2) f1 (.string wd)
  have f3 := setCell_same (o := 3) f2 (.slice ao' n cap')
  refine bodyPost_ret (results_cell_row rfl _ _ (w.heap.size + 1) 93 #[.string c, .string sv, .string wd, .slice ao' n cap'] (0, 0) _ rfl (by simpa using f3) Tryz.underlying93 rfl (by kernel_rfl)) rfl ?_
  have hne : ∀ a, ao' = some a → a.block ≠ w.heap.size + 1 := fun a ha => by have := (GW.out a ha).1; omega
  refine ⟨ao', cap', rfl, ?_, ?_, ?_⟩
  · exact (((GI.out.setCell hne _).setCell hne _).setCell hne _).setCell hne _
  · exact setCell_below (setCell_below (setCell_below (setCell_below GB.out (Nat.le_succ _) _) (Nat.le_succ _) _) (Nat.le_succ _) _) (Nat.le_succ _) _
  · exact ((((GW.out.setCell hne _).setCell hne _).setCell hne _).setCell hne _).mono (by omega)
end Go.Proofs.Sa
