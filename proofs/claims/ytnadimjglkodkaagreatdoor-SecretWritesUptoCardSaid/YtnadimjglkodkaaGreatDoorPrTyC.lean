/- secrets: a builder's copyCheck and WriteString (after the shelf's Builder1, at this program); Print. -/
import Derived.Lib.AppendStr
import Derived.Shelf.Strings.Builder1
import Derived.Test.YtnadimjglkodkaaGreatDoorPrTyA
import Derived.Test.YtnadimjglkodkaaGreatDoorPrTyB
import Derived.Test.YtnadimjglkodkaaGreatDoorPrTwC
namespace Go.Proofs.Sr
open Go Go.RowKit Go.Pl Go.Proofs.Sa
theorem size104 : ((Tryz.prog.info? 104).map (·.size)) = some 2 := by kernel_rfl
theorem lies104 : liesAt Tryz.prog Tryz.prog.depth 104 (2 / Tryz.prog.cellsOf 104) 0 104 1 = true := by kernel_rfl
set_option maxHeartbeats 1000000 in
set_option maxRecDepth 100000 in
theorem check_used (b : Nat) (w : World) (h0 : w.cell? ⟨b, 0, none⟩ = some (.pointer (some ⟨b, 0, none⟩))) :
    Calls Tryz.prog 82 #[.pointer (some ⟨b, 0, none⟩)] w fun e w' => e = .returned (.tuple #[]) ∧ w' = w := by
  obtain ⟨j, hj, _⟩ := Option.map_eq_some_iff.1 size104
  go_enter Tryz.func82, Tryz.ntmps82
  go_wp2
  rw [Lib.run_neq_ptr_same w _ Tryz.underlying101 hj]
  go_wp2
  go_end0
  exact ⟨rfl, rfl⟩
set_option maxHeartbeats 1000000 in
set_option maxRecDepth 100000 in
theorem check_fresh (b : Nat) (w : World) (h0 : w.cell? ⟨b, 0, none⟩ = some (.pointer none)) (hsh : w.shape? b = some (104, 2)) (hfz : w.frozen? ⟨b, 0, none⟩ = false) :
    Calls Tryz.prog 82 #[.pointer (some ⟨b, 0, none⟩)] w fun e w' => e = .returned (.tuple #[]) ∧ w' = w.setCell ⟨b, 0, none⟩ (.pointer (some ⟨b, 0, none⟩)) := by
  obtain ⟨j, hj, hjs⟩ := Option.map_eq_some_iff.1 size104
  go_enter Tryz.func82, Tryz.ntmps82
  go_wp2
  rw [Lib.run_to_unsafe w ⟨b, 0, none⟩ Tryz.underlying101 Tryz.underlying126 hj (by rw [hjs]; decide) hsh (Nat.zero_lt_succ 1)]
  simp only [Result.andThen]
  rw [Oper.upon_value]
  go_wp2
  rw [run_callFunc_extern Tryz.func97 (by kernel_rfl) (by kernel_rfl) (by kernel_rfl) (e := Extern.AbiNoEscape.same) (by kernel_rfl)]
  rw [Lib.run_noEscape]
  simp only [Result.andThen]
  rw [Oper.upon_value]
  go_wp2
  rw [Lib.run_from_unsafe w ⟨b, 0, none⟩ Tryz.underlying126 Tryz.underlying101 hj hsh lies104]
  simp only [Result.andThen]
  rw [Oper.upon_value]
  go_wp2
  go_end0
  exact ⟨rfl, rfl⟩
theorem check_any (B b : Nat) (bs : List Value) (w : World) (h : Lib.IsBuilder 104 5 B b bs w) :
    Calls Tryz.prog 82 #[.pointer (some ⟨b, 0, none⟩)] w fun e w' => e = .returned (.tuple #[]) ∧ (Lib.BuilderAt 104 5 B b (.pointer (some ⟨b, 0, none⟩)) bs w' ∧ Below B w w') := by
  rcases h with h | h
  · refine (check_fresh b w h.cell0 h.shape h.frozen0).mono ?_
    rintro e w' ⟨rfl, rfl⟩
    exact ⟨rfl, h.used _, (Below.refl B w).setCell (p := ⟨b, 0, none⟩) h.1 _⟩
  · refine (check_used b w h.cell0).mono ?_
    rintro e w' ⟨rfl, rfl⟩
    exact ⟨rfl, h, Below.refl B _⟩
set_option maxHeartbeats 2000000 in
set_option maxRecDepth 100000 in
theorem write_string (B b : Nat) (acc : List UInt8) (s : ByteArray) (w : World) (h : Lib.IsBuilder 104 5 B b (Lib.byteCells acc) w) (hlen : acc.length + s.size ≤ 140737488355328) (hpos : 0 < s.size) (hBw : B ≤ w.heap.size) :
    Calls Tryz.prog 55 #[.pointer (some ⟨b, 0, none⟩), .string s] w fun e w' => e = .returned (.tuple #[.int .i64 s.size, .nilIface]) ∧ (Lib.IsBuilder 104 5 B b (Lib.byteCells (acc ++ s.data.toList)) w' ∧ Below B w w') := by
  obtain ⟨i0, hi, hz0, hz1, hz2⟩ := info_parts info5
  have hbl : (Lib.byteCells acc).length = acc.length := by simp [Lib.byteCells]
  go_enter Tryz.func55, Tryz.ntmps55
  go_wp2_with (go_at_call 82; refine (check_any B b _ _ h).mono ?_)
  rintro e w1 ⟨rfl, h1, hb1⟩
  obtain ⟨hB, v, hbk, hown, hne⟩ := h1
  have c0 : w1.cell? ⟨b, 0, none⟩ = some (.pointer (some ⟨b, 0, none⟩)) := by rw [Lib.cell_of_heap hbk]; rfl
  have c1 : w1.cell? ⟨b, 1, none⟩ = some v := by rw [Lib.cell_of_heap hbk]; rfl
  have hlt : b < w1.heap.size := by
    rcases Nat.lt_or_ge b w1.heap.size with h' | h'
    · exact h'
    · simp [Array.getElem?_eq_none h'] at hbk
  have hw1 := hb1.size
  go_wp2_with (at_builtin; refine Lib.wpList_append_own_string _ rfl _ _ 102 9 rfl B 5 i0 Tryz.underlying102 Tryz.underlying9 hi hz0 hz1 hz2 v _ _ rfl hown s rfl (by rw [hbl]; unfold maxLen; omega) (by rw [hbl]; omega) (by omega) ?_)
  intro v' w2 hown' hgrow _
  have hb2 : w2.heap[b]? = some (.cells #[.pointer (some ⟨b, 0, none⟩), v] 104 (0, 0)) := by
    rw [hgrow.block b hlt (fun e => hne e.symm)]
    exact hbk
  have d0 : w2.cell? ⟨b, 0, none⟩ = some (.pointer (some ⟨b, 0, none⟩)) := by rw [Lib.cell_of_heap hb2]; rfl
  have d1 : w2.cell? ⟨b, 1, none⟩ = some v := by rw [Lib.cell_of_heap hb2]; rfl
  have f1 : w2.frozen? ⟨b, 1, none⟩ = false := Lib.frozen_of_heap hb2 1
  obtain ⟨g, cap, rfl⟩ : ∃ g cap, v' = .slice (some ⟨g, 0, none⟩) (acc.length + s.size) cap := by
    rcases hown'.2 with ⟨_, h0⟩ | ⟨g, cap, cur, hv, _⟩
    · omega
    · exact ⟨g, cap, hv⟩
  have hlen2 : acc.length + s.size = (Lib.byteCells (acc ++ s.data.toList)).length := by rw [Lib.size_eq]; simp [Lib.byteCells]
  have hcs : Lib.byteCells acc ++ Lib.strCells s = Lib.byteCells (acc ++ s.data.toList) := by rw [Lib.byteCells_append]; rfl
  rw [hcs, hlen2] at hown'
  rw [hlen2]
  generalize hbb : Lib.byteCells (acc ++ s.data.toList) = bb at *
  clear hcs
  go_wp2
  go_ret2
  refine ⟨rfl, .inr ?_, ?_⟩
  · rw [hbb]
    exact Lib.BuilderAt.put (T := 104) (e := 5) hB hb2 (bs' := bb) hown' (by decide)
  · exact (hb1.grown hgrow (by omega) (fun k hk => (hown.lt k hk).1)).setCell (p := ⟨b, 1, none⟩) hB _
end Go.Proofs.Sr
namespace Go.Proofs.Sr
open Go Go.RowKit Go.Pl Go.Proofs.Sa Go.Proofs.Pt
theorem builder_kept {b : Nat} {bs : List Value} {w w' : World} (h : Lib.IsBuilder 104 5 b b bs w) (hb : Below w.heap.size w w') : Lib.IsBuilder 104 5 b b bs w' := by
  have k : ∀ p, Lib.BuilderAt 104 5 b b p bs w → Lib.BuilderAt 104 5 b b p bs w' := fun p h => by
    have hlt := h.lt
    obtain ⟨h1, v, h2, h3, h4⟩ := h
    exact ⟨h1, v, (hb.block b hlt).trans h2, own_below h3 hb, h4⟩
  exact h.imp (k _) (k _)
/-- The words of a line, as they are joined. -/
def wordsB (x : Sec) : List ByteArray := strP x.c :: strP x.sv :: strP x.wd :: x.zs.map textR
theorem textR_list {z : Int} (h : 1 ≤ z ∧ z ≤ 4294967295) : (textR z).data.toList = textN z.toNat := by
  unfold textR
  rw [if_neg (by omega)]; rfl
theorem join_words {x : Sec} (h : x.right = 0) : Lib.join ((wordsB x).map (·.data.toList)) [32] = lineX (secX x) := by
  have h0 : rightR x.c x.sv x.wd x.zs = 0 := h
  have hz := (right_parts h0).2.2.2.2
  have e : (x.zs.map textR).map (·.data.toList) = ((x.zs.map Int.toNat).map textN).map wordP := by
    rw [List.map_map, List.map_map, List.map_map]
    exact List.map_congr_left fun z hzm => by
      show (textR z).data.toList = wordP (textN z.toNat)
      rw [wordP_text, textR_list (hz z hzm)]
  show List.intercalate [32] _ = List.intercalate [32] _
  unfold wordsB
  rw [List.map_cons, List.map_cons, List.map_cons, e, strP_list, strP_list, strP_list]
  rfl
theorem okC_ascii {c : UInt8} (h : okC c) : c.toNat < 128 := by have := h.2.1; omega
set_option maxRecDepth 1000000 in
set_option maxHeartbeats 3200000 in
theorem print_any (ao : Option Addr) (n cap : Nat) (l : List Sec) (w : World) (hz : Secs w ao n l) (hC : Consts w) : Calls Tryz.prog 28 #[.slice ao n cap] w fun e w' => ∃ s : ByteArray, e = .returned (.tuple #[.string s, .int .i64 (wrongR l).1, .int .i64 (wrongR l).2]) ∧ s.data.toList = outP l ∧ Below w.heap.size w w' := by
  have HF := Lib.hid (wrong_any ao n cap l w hz)
  have HZ := Lib.hid hz
  have HC := Lib.hid hC
  clear hz hC
  obtain ⟨k1, k2, hk⟩ : ∃ k1 k2, wrongR l = (k1, k2) := ⟨_, _, rfl⟩
  rw [hk] at HF ⊢
  by_cases h0 : k1 = 0
  case neg =>
    have hk0 : (k1 != 0) = true := by simpa using h0
    have HO := Lib.hid (show outP l = [] from if_neg (by rw [hk]; exact h0))
    clear hk h0
    go_enter Tryz.func28, Tryz.ntmps28
    go_wp2_with (go_at_call 52; go_loud (refine HF.out.mono ?_; rintro e w2 ⟨rfl, hb2⟩; have HB2 := Lib.hid hb2; clear hb2))
    go_ret3
    exact ⟨⟨#[]⟩, rfl, HO.out.symm, HB2.out⟩
  subst h0
  obtain ⟨hl64, hrt, hk2⟩ := wrong_zero (l := l) (by rw [hk])
  obtain rfl : k2 = 0 := by rw [hk] at hk2; exact congrArg Prod.snd hk2
  have HO := Lib.hid (show outP l = fileP (l.map secX) from if_pos (by rw [hk]))
  have HRt := Lib.hid hrt
  have hn64 : n ≤ 64 := by rw [← HZ.out.len]; exact hl64
  obtain ⟨i0, hi0, hz0, hz1, hz2⟩ := info_parts info9
  clear hk hk2 hrt hl64
  go_enter Tryz.func28, Tryz.ntmps28
  go_upto_region 5 with (go_at_call 52; go_loud (refine HF.out.mono ?_; rintro e w2 ⟨rfl, hb2⟩; have HB2 := Lib.hid hb2; clear hb2))
  have HBd : Hid (Lib.IsBuilder 104 5 w2.heap.size w2.heap.size (Lib.byteCells []) (w2.alloc (.cells #[.pointer none, .slice none 0 0] 104))) := Lib.hid (Lib.fresh_isBuilder 104 5 w2)
  have HBx : Hid (Below w2.heap.size w2 (w2.alloc (.cells #[.pointer none, .slice none 0 0] 104))) := Lib.hid ((Below.refl _ _).alloc (Nat.le_refl _) _)
  have HLt : Hid (w2.heap.size < (w2.alloc (.cells #[.pointer none, .slice none 0 0] 104)).heap.size) := Lib.hid (by simp)
  generalize (w2.alloc (.cells #[.pointer none, .slice none 0 0] 104)) = w3 at *
  have HWb := Lib.hid HB2.out.size
  have HZ2 := Lib.hid (HZ.out.kept HB2.out)
  have HBI : Hid (∀ wx, Below w2.heap.size w2 wx → Secs wx ao n l ∧ Below w.heap.size w wx) := Lib.hid fun wx h => ⟨HZ2.out.kept h, below_step HB2.out h⟩
  generalize w2.heap.size = gb at *
  go_wp2
  go_loopg [26] n (fun g s26 wx => ∃ (i : Nat), i + g = n ∧ s26 = .int .i64 i ∧ Hid (Lib.IsBuilder 104 5 gb gb (Lib.byteCells (fileP ((l.take i).map secX))) wx ∧ Below gb w2 wx ∧ gb < wx.heap.size))
  case atStart => exact ⟨0, by omega, rfl, Lib.hid ⟨HBd.out, HBx.out, HLt.out⟩⟩
  case round =>
    obtain ⟨i, hig, rfl, HR⟩ := hrel
    cases gk with
    | zero =>
      obtain rfl : i = n := by omega
      have HFin : Hid (fileP ((l.take i).map secX) = outP l) := Lib.hid (by rw [HO.out, List.take_of_length_le (by rw [HZ.out.len]; exact Nat.le_refl _)])
      generalize fileP ((l.take i).map secX) = T at *
      have HSt := Lib.hid (Tryz.Builder_String_any gb gb T wr HR.out.1 (Nat.le_of_lt HR.out.2.2))
      go_wp2_with (go_at_call 57; go_loud (refine HSt.out.mono ?_; rintro e w5 ⟨rfl, hb5⟩; have HB5 := Lib.hid hb5; clear hb5))
      go_ret3
      exact ⟨_, rfl, HFin.out, (HBI.out _ (HR.out.2.1.trans HB5.out)).2⟩
    | succ g =>
      have hi : (i : Int) < (n : Int) := by omega
      have hil : i < l.length := by rw [HZ.out.len]; omega
      obtain ⟨x, hx⟩ : ∃ x, l[i]? = some x := ⟨_, List.getElem?_eq_getElem hil⟩
      have hxm := List.mem_of_getElem? hx
      have HS := Lib.hid (HBI.out wr HR.out.2.1).1
      obtain ⟨ba, off, rfl, hb, hc⟩ := HS.out.row (by omega)
      obtain ⟨q0, q1, q2, q3⟩ := hc i x hx
      have HI := Lib.hid (HS.out.ints x hxm)
      have hright := HRt.out x hxm
      have HRi := Lib.hid hright
      have HX := Lib.hid hx
      have HFi := Lib.hid (fine_right hright)
      have hasc : ∀ {s : ByteArray}, (∀ y ∈ s.data.toList, okC y) → ∀ (j : Nat) b, s.data.toList[j]? = some b → b.toNat < 128 := fun h j b hb => okC_ascii (h b (List.mem_of_getElem? hb))
      have h1 : x.c.data.toList.length ≤ 64 := HFi.out.cl
      have h2 : x.sv.data.toList.length ≤ 64 := HFi.out.sl
      have h3 : x.wd.data.toList.length ≤ 64 := HFi.out.wl
      have HQ1 := Lib.hid (word_any x.c (by rw [Lib.size_eq]; omega) (hasc HFi.out.c))
      have HQ2 := Lib.hid (word_any x.sv (by rw [Lib.size_eq]; omega) (hasc HFi.out.s))
      have HQ3 := Lib.hid (word_any x.wd (by rw [Lib.size_eq]; omega) (hasc HFi.out.w))
      have HJ := Lib.hid (join_words hright)
      clear hc hx hb hil hxm hright hasc h1 h2 h3
      have HB := Lib.hid (Box4.start wr (.string x.c) (.string x.sv) (.string x.wd) (.slice x.ao x.n x.cap) 93)
      have k0 := HB.out.k0
      have k1 := HB.out.k1
      have k2 := HB.out.k2
      have k3 := HB.out.k3
      go_upto_region 8 with fail
      generalize (wr.alloc (.cells #[.string x.c, .string x.sv, .string x.wd, .slice x.ao x.n x.cap] 93)) = w8 at *
      have HB8 : Hid (Below wr.heap.size wr w8) := Lib.hid HB.out.below
      have HI8 := Lib.hid (HI.out.kept HB8.out)
      have h8 : wr.heap.size < w8.heap.size := HB.out.lt
      have HIw : Hid (∀ wx, Below w8.heap.size w8 wx → Ints wx x.ao x.n x.zs ∧ Consts wx ∧ w8.heap.size ≤ wx.heap.size ∧ Lib.IsBuilder 104 5 gb gb (Lib.byteCells (fileP ((l.take i).map secX))) wx ∧ Below gb w2 wx) := Lib.hid fun wx h => by
        have hb1 : Below wr.heap.size wr wx := HB8.out.trans (h.mono (Nat.le_of_lt h8))
        have hb2 : Below gb w2 wx := HR.out.2.1.trans (hb1.mono (Nat.le_of_lt HR.out.2.2))
        exact ⟨HI.out.kept hb1, HC.out.kept (HBI.out _ hb2).2, h.size, builder_kept HR.out.1 hb1, hb2⟩
      have HWB : Hid (wordsB x = [strP x.c, strP x.sv, strP x.wd] ++ x.zs.map textR) := Lib.hid rfl
      generalize wr.heap.size = g9 at *
      have HALL : Hid (∀ w', Below w8.heap.size w8 w' → w'.cell? ⟨g9, 0, none⟩ = some (.string x.c) ∧ w'.cell? ⟨g9, 1, none⟩ = some (.string x.sv) ∧ w'.cell? ⟨g9, 2, none⟩ = some (.string x.wd) ∧ w'.cell? ⟨g9, 3, none⟩ = some (.slice x.ao x.n x.cap) ∧ Hid (Below w8.heap.size w8 w')) :=
        Lib.hid fun w' h => ⟨(h.cell h8).trans k0, (h.cell h8).trans k1, (h.cell h8).trans k2, (h.cell h8).trans k3, Lib.hid h⟩
      have HSd : Hid (Below w8.heap.size w8 w8.drew) := Lib.hid ⟨rfl, rfl, rfl, Nat.le_refl _, fun _ _ => rfl⟩
      have HAl : Hid (∀ w' o, Below w8.heap.size w8 w' → Below w8.heap.size w8 (w'.alloc o)) := Lib.hid fun w' o h => h.alloc h.size o
      generalize strP x.c = s1 at *
      generalize strP x.sv = s2 at *
      generalize strP x.wd = s3 at *
      go_region_held3 (fun w' => w'.cell? ⟨g9, 0, none⟩ = some (.string x.c) ∧ w'.cell? ⟨g9, 1, none⟩ = some (.string x.sv) ∧ w'.cell? ⟨g9, 2, none⟩ = some (.string x.wd) ∧ w'.cell? ⟨g9, 3, none⟩ = some (.slice x.ao x.n x.cap) ∧ Hid (Below w8.heap.size w8 w'))
        (first | exact HALL.out _ HS2.out | exact HALL.out _ HSd.out | exact HALL.out _ (HAl.out _ _ HS2.out) | assumption)
        (first
          | (go_at_call 53; (obtain ⟨_, _, _, _, HSx⟩ := ‹_ ∧ _ ∧ _ ∧ _ ∧ Hid _›); with_reducible refine (HQ1.out _).mono ?_; rintro e w5 ⟨rfl, hb⟩; have HS2 := Lib.hid (below_step HSx.out hb); clear hb HSx)
          | (go_at_call 53; (obtain ⟨_, _, _, _, HSx⟩ := ‹_ ∧ _ ∧ _ ∧ _ ∧ Hid _›); with_reducible refine (HQ2.out _).mono ?_; rintro e w5 ⟨rfl, hb⟩; have HS2 := Lib.hid (below_step HSx.out hb); clear hb HSx)
          | (go_at_call 53; (obtain ⟨_, _, _, _, HSx⟩ := ‹_ ∧ _ ∧ _ ∧ _ ∧ Hid _›); with_reducible refine (HQ3.out _).mono ?_; rintro e w5 ⟨rfl, hb⟩; have HS2 := Lib.hid (below_step HSx.out hb); clear hb HSx))
      obtain ⟨_, _, _, m3, _⟩ := ‹_ ∧ _ ∧ _ ∧ _ ∧ Hid _›
      have HO9 : Hid ((w5.alloc (.cells #[.string s1, .string s2, .string s3] 9)).ownsRow w8.heap.size 9 1 (.slice (some ⟨w5.heap.size, 0, none⟩) 3 3) 3 (([s1, s2, s3] : List ByteArray).map Value.string)) := Lib.hid ⟨rfl, .inr ⟨w5.heap.size, 3, _, rfl, HS2.out.size, heap_alloc_new w5 _, Nat.le_refl _, by decide, rfl, rfl⟩⟩
      have HBl9 := Lib.hid (HAl.out _ (.cells #[.string s1, .string s2, .string s3] 9) HS2.out)
      have h8b : gb < w8.heap.size := Nat.lt_trans HR.out.2.2 h8
      clear k0 k1 k2 k3 HALL HSd HAl HQ1 HQ2 HQ3 q0 q1 q2 q3 HB HI8 HB8 HI HS HR
      generalize w8.heap.size = C8 at *
      have hxn : x.zs.length = x.n := (HIw.out _ HBl9.out).1.len
      have h0 : rightR x.c x.sv x.wd x.zs = 0 := HRi.out
      have hx16 : x.n ≤ 16 := by
        have := (right_parts h0).2.2.2.1
        omega
      have HZs : Hid (∀ z ∈ x.zs, 1 ≤ z ∧ z ≤ 4294967295) := Lib.hid (right_parts h0).2.2.2.2
      have HXN := Lib.hid hxn
      clear hxn h0
      have HT0 : Hid ((w5.alloc (.cells #[.string s1, .string s2, .string s3] 9)).ownsRow C8 9 1 (.slice (some ⟨w5.heap.size, 0, none⟩) 3 3) (3 + 0) (([s1, s2, s3] ++ (x.zs.take 0).map textR).map Value.string) ∧ Below C8 w8 (w5.alloc (.cells #[.string s1, .string s2, .string s3] 9))) := Lib.hid ⟨HO9.out, HBl9.out⟩
      generalize x.ao = xo at *
      generalize w5.heap.size = g10 at *
      generalize (w5.alloc (.cells #[.string s1, .string s2, .string s3] 9)) = w9 at *
      go_upto_block 2 with fail
      go_cut [10] (fun s10 wx => Hid (wx.ownsRow C8 9 1 s10 (3 + x.n) ((wordsB x).map Value.string) ∧ Below C8 w8 wx))
      case first =>
        go_wp2
        go_loopg [10, 43] x.n (fun g2 s10 s43 wx => ∃ (j : Nat), j + g2 = x.n ∧ s43 = .int .i64 j ∧ Hid (wx.ownsRow C8 9 1 s10 (3 + j) (([s1, s2, s3] ++ (x.zs.take j).map textR).map Value.string) ∧ Below C8 w8 wx))
        case atStart => exact ⟨0, by omega, rfl, HT0⟩
        case round =>
          obtain ⟨j, hjg, rfl, HT⟩ := hrel
          cases gk with
          | zero =>
            obtain rfl : j = x.n := by omega
            go_wp2
            go_meet
            exact Lib.hid ⟨by rw [HWB.out]; have := HT.out.1; rwa [List.take_of_length_le (l := x.zs) (by rw [HXN.out]; exact Nat.le_refl _)] at this, HT.out.2⟩
          | succ g2 =>
            have hj : (j : Int) < (x.n : Int) := by omega
            obtain ⟨z, hz⟩ : ∃ z, x.zs[j]? = some z := ⟨_, List.getElem?_eq_getElem (by rw [HXN.out]; omega)⟩
            have HIx := Lib.hid (HIw.out _ HT.out.2)
            obtain ⟨bz, oz, rfl, hbz2, hcz⟩ := HIx.out.1.row (by omega)
            have hcz2 := hcz j (by omega)
            rw [List.getD_eq_getElem?_getD, hz, Option.getD_some] at hcz2
            have HTx := Lib.hid (text_any z wr HIx.out.2.1)
            have HTk := Lib.hid (takez_snoc hz)
            clear hz hcz hbz2
            generalize textE z = ez at *
            obtain ⟨st, hst⟩ : ∃ st, textR z = st := ⟨_, rfl⟩
            have HST := Lib.hid hst
            rw [hst] at HTx
            clear hst
            go_wp2_with (first
              | (go_at_call 54; go_loud (refine HTx.out.mono ?_; rintro e w6 ⟨rfl, hb5⟩; have HB5 := Lib.hid hb5; clear hb5))
              | (at_builtin; go_loud (refine wpList_append_own _ rfl _ _ 106 rfl C8 9 i0 (.string ⟨#[]⟩) 1 16 Tryz.underlying106 hi0 hz0 hz1 hz2 rfl (by decide) _ _ _ rfl ((own_below HT.out.1 HB5.out).alloc _) ⟨w6.heap.size, 0, none⟩ 1 1 [.string st] rfl rfl (cell_one_new _ _ _) (fun u hu => by simp at hu; subst hu; rfl) (by unfold maxLen; omega) (by omega) (by have := HIx.out.2.2.1; have := HB5.out.size; simp; omega) ?_; intro v' w7 hown' hgrow' hnil'; have HO := Lib.hid hown'; have HG := Lib.hid hgrow'; clear hown' hgrow' hnil')))
            go_roundg g2
            case measure => omega
            case rel =>
              have e : (([s1, s2, s3] ++ (x.zs.take (j + 1)).map textR).map Value.string) = ([s1, s2, s3] ++ (x.zs.take j).map textR).map Value.string ++ [.string st] := by
                rw [HTk.out]; simp [HST.out]
              have h6 := HT.out.2.trans (HB5.out.mono HIx.out.2.2.1)
              have hs6 : C8 ≤ w6.heap.size := Nat.le_trans HIx.out.2.2.1 HB5.out.size
              exact ⟨j + 1, by omega, by simp, Lib.hid ⟨by rw [e]; exact HO.out, (h6.alloc hs6 _).grown HG.out (by simp; omega) (fun k hk => (HT.out.1.lt k hk).1)⟩⟩
      case rest =>
      have HT := hcut
      clear hcut
      have HIx := Lib.hid (HIw.out _ HT.out.2)
      obtain ⟨gw, capw, rfl, hnc, hgb, hgl, hrow⟩ := own_row HT.out.1 (by omega)
      have hwl : (wordsB x).length = 3 + x.n := by rw [HWB.out, List.length_append, List.length_map, HXN.out]; rfl
      have hjl : (Lib.join ((wordsB x).map (·.data.toList)) [32]).length ≤ 457 := by
        have hf := fine_right HRi.out
        rw [HJ.out]; exact (line_len hf.cl hf.sl hf.wl hf.zl).1
      have HJn : Hid (Calls Tryz.prog 56 #[.slice (some ⟨gw, 0, none⟩) (3 + x.n) capw, .string ⟨#[32]⟩] wc fun e w' => e = .returned (.string ⟨(lineX (secX x)).toArray⟩) ∧ Below wc.heap.size wc w') := Lib.hid (by
        have := Tryz.strings_Join gw 0 capw (wordsB x) ⟨#[32]⟩ wc (fun j s hs => by
          rw [Nat.zero_add]
          exact hrow j _ (by rw [List.getElem?_map, hs]; rfl)) hgl (by omega) (by omega) (Nat.le_trans hjl (by decide))
        rw [hwl] at this
        have e : Lib.join ((wordsB x).map (·.data.toList)) (⟨#[32]⟩ : ByteArray).data.toList = lineX (secX x) := HJ.out
        rw [e] at this
        exact this)
      rw [HJ.out] at hjl
      have hTl : (fileP ((l.take i).map secX)).length ≤ 458 * 64 := by
        have h1 := file_len ((l.take i).map secX) (fun y hy => by
          obtain ⟨v, hv, rfl⟩ := List.mem_map.1 hy
          exact fine_right (HRt.out v (List.mem_of_mem_take hv)))
        have h2 : ((l.take i).map secX).length ≤ 64 := by rw [List.length_map, List.length_take]; omega
        omega
      have hNx : fileP ((l.take (i + 1)).map secX) = fileP ((l.take i).map secX) ++ (lineX (secX x) ++ [10]) := by
        rw [take_snoc HX.out, fileP_snoc, lineX_eq, List.append_assoc]
      have HNx := Lib.hid hNx
      clear hNx hrow hwl hnc hgb hgl HJ HWB
      generalize fileP ((l.take i).map secX) = T at *
      generalize lineX (secX x) = LX at *
      have hls : (⟨LX.toArray⟩ : ByteArray).size = LX.length := by simp [ByteArray.size]
      have hgc : gb < wc.heap.size := Nat.lt_of_lt_of_le h8b HIx.out.2.2.1
      obtain ⟨S, hS⟩ : ∃ S : ByteArray, S = ⟨LX.toArray⟩ ++ ⟨#[10]⟩ := ⟨_, rfl⟩
      have hSz : S.size = LX.length + 1 := by rw [hS, ByteArray.size_append, hls]; rfl
      have hSl : S.data.toList = LX ++ [10] := by rw [hS]; simp [ByteArray.data_append]
      have HWr : Hid (∀ w6, Below wc.heap.size wc w6 → Calls Tryz.prog 55 #[.pointer (some ⟨gb, 0, none⟩), .string S] w6 fun e w' => e = .returned (.tuple #[.int .i64 (S.size : Nat), .nilIface]) ∧ (Lib.IsBuilder 104 5 gb gb (Lib.byteCells (T ++ (LX ++ [10]))) w' ∧ Below gb w2 w' ∧ gb < w'.heap.size)) := Lib.hid (by
        intro w6 h6
        have hg6 : gb < w6.heap.size := Nat.lt_of_lt_of_le hgc h6.size
        have hw := write_string gb gb T S w6 (builder_kept HIx.out.2.2.2.1 h6) (by omega) (by omega) (Nat.le_of_lt hg6)
        rw [hSl] at hw
        exact hw.mono fun e w' h => ⟨h.1, h.2.1, HIx.out.2.2.2.2.trans ((h6.mono (Nat.le_of_lt hgc)).trans h.2.2), Nat.lt_of_lt_of_le hg6 h.2.2.size⟩)
      rw [hS] at HWr
      clear hS hSz hSl hls
      have g1 : ¬ 9223372036854775807 < LX.length + 1 := by omega
      clear HRt hTl
      go_wp2_with (first
        | (go_at_call 56; go_loud (refine HJn.out.mono ?_; rintro e w6 ⟨rfl, hb5⟩; have HB5 := Lib.hid hb5; clear hb5))
        | (go_at_call 55; go_loud (refine (HWr.out _ HB5.out).mono ?_; rintro e w7 ⟨rfl, hw7⟩; have HW7 := Lib.hid hw7; clear hw7)))
      go_roundg g
      case measure => omega
      case rel => exact ⟨i + 1, by omega, by simp, Lib.hid (by rw [HNx.out]; exact HW7.out)⟩
end Go.Proofs.Sr
