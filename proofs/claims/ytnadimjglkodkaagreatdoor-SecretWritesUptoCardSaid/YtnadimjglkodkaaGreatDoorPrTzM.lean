/- secrets: Copied. -/
import Derived.Maps.AppendAt
import Derived.OwnWalk
import Derived.Laws.AppendOwnNone
import Derived.Test.YtnadimjglkodkaaGreatDoorPrTzE
namespace Go.Proofs.Sa
open Go Go.RowKit Go.Pl Go.Maps
theorem info93 : (Tryz.prog.info? 93).map (fun i => (i.zero, i.size, i.bytes)) = some (some (.agg #[.string ⟨#[]⟩, .string ⟨#[]⟩, .string ⟨#[]⟩, .slice none 0 0]), 4, 72) := by kernel_rfl
theorem grown_below {w w' : World} (h : w.grownBy w' none) : Below w.heap.size w w' := ⟨h.os, h.tape, h.output, h.size, fun k hk => h.block k hk (by simp)⟩
/-- The same, but for where the numbers lie. -/
def Like (x y : Sec) : Prop := y.c = x.c ∧ y.sv = x.sv ∧ y.wd = x.wd ∧ y.n = x.n ∧ y.zs = x.zs
def AllLike : List Sec → List Sec → Prop
  | [], [] => True
  | x :: l, y :: m => Like x y ∧ AllLike l m
  | _, _ => False
theorem two_blocks' {w w3 : World} {x y : Array Value} {t : TypeId} (h : Below ((w.alloc (.cells x t)).alloc (.cells y t)).heap.size ((w.alloc (.cells x t)).alloc (.cells y t)) w3) :
    w3.heap[w.heap.size]? = some (.cells x t (0, 0)) ∧ w3.heap[w.heap.size + 1]? = some (.cells y t (0, 0)) ∧ Below w.heap.size w w3 ∧ w.heap.size + 2 ≤ w3.heap.size := two_blocks h
theorem cell_four_new (w : World) (a b c d : Value) (t : TypeId) : ∀ j u, [a, b, c, d][j]? = some u → (w.alloc (.cells #[a, b, c, d] t)).cell? ((⟨w.heap.size, 0, none⟩ : Addr).add j) = some u := by
  intro j u hu
  have hadd : (⟨w.heap.size, 0, none⟩ : Addr).add j = ⟨w.heap.size, j, none⟩ := by unfold Addr.add; split <;> simp_all
  rw [hadd]
  have hh : (w.alloc (.cells #[a, b, c, d] t)).heap[w.heap.size]? = some (.cells #[a, b, c, d] t (0, 0)) := heap_alloc_new w _
  simp only [World.cell?, hh]
  rw [← Array.getElem?_toList]; exact hu
/-- A row of another type grows: the numbers stay. -/
theorem own_grown {base n k m sz : Nat} {w w' : World} {ao : Option Addr} {zs : List Int} {v : Value} {xs : List Value} (hi : Ints w ao n zs) (ho : OwnI base w ao) (hv : w.ownsRow m 93 sz v k xs) (hg : w.grownBy w' v.ownBlock) : Ints w' ao n zs ∧ OwnI base w' ao := by
  have hb : ∀ a, ao = some a → w'.heap[a.block]? = w.heap[a.block]? := fun a ha => by
    obtain ⟨_, cur, h2⟩ := ho a ha
    refine hg.block _ (Array.getElem?_eq_some_iff.1 h2).1 fun e => ?_
    obtain ⟨_, ⟨rfl, _⟩ | ⟨g, cap, cur', rfl, _, h5, _⟩⟩ := hv
    · cases e
    · simp only [Value.ownBlock, Option.some.injEq] at e
      rw [e, h5] at h2
      cases h2
  refine ⟨⟨hi.len, hi.wf, fun h0 => ?_⟩, fun a ha => ?_⟩
  · obtain ⟨b, off, h1, h2, h3⟩ := hi.row h0
    exact ⟨b, off, h1, Nat.lt_of_lt_of_le h2 hg.size, fun j hj => (World.cell?_of_block (a := ⟨b, off + j, none⟩) (hb ⟨b, off, none⟩ h1)).trans (h3 j hj)⟩
  · obtain ⟨h1, cur, h2⟩ := ho a ha
    exact ⟨h1, cur, (hb a ha).trans h2⟩
theorem AllLike.snoc : ∀ {l m : List Sec} {x y : Sec}, AllLike l m → Like x y → AllLike (l ++ [x]) (m ++ [y])
  | [], [], _, _, _, h => ⟨h, trivial⟩
  | [], _ :: _, _, _, h, _ => h.elim
  | _ :: _, [], _, _, h, _ => h.elim
  | _ :: _, _ :: _, _, _, h, h' => ⟨h.1, h.2.snoc h'⟩
/-- What holds ahead of a round. -/
def Cop (w : World) (l : List Sec) (i : Nat) (v : Value) (l' : List Sec) (wx : World) : Prop :=
  AllLike (l.take i) l' ∧ wx.ownsRow w.heap.size 93 4 v i (l'.map Sec.cells4).flatten ∧ (∀ y ∈ l', Ints wx y.ao y.n y.zs ∧ OwnI w.heap.size wx y.ao ∧ (y.ao = none → y.cap = 0)) ∧ Below w.heap.size w wx
theorem Cop.next {w wr w4 w5 : World} {l l' : List Sec} {i : Nat} {v v5 : Value} {x : Sec} {ao : Option Addr} {cap : Nat} {o : Obj} (h : Cop w l i v l' wr) (hx : l[i]? = some x) (hb : Below wr.heap.size wr w4)
    (hi : Ints w4 ao x.n x.zs) (ho : OwnI wr.heap.size w4 ao) (hc : ao = none → cap = 0)
    (hv5 : w5.ownsRow w.heap.size 93 4 v5 (i + 1) ((l'.map Sec.cells4).flatten ++ [.string x.c, .string x.sv, .string x.wd, .slice ao x.n cap])) (hg : (w4.alloc o).grownBy w5 v.ownBlock) : Cop w l (i + 1) v5 (l' ++ [⟨x.c, x.sv, x.wd, ao, x.n, cap, x.zs⟩]) w5 := by
  obtain ⟨h1, h2, h3, h4⟩ := h
  have hal : Below w4.heap.size w4 (w4.alloc o) := (Below.refl _ _).alloc (Nat.le_refl _) _
  have hb4 : Below wr.heap.size wr (w4.alloc o) := below_step hb hal
  have hv : (w4.alloc o).ownsRow w.heap.size 93 4 v i (l'.map Sec.cells4).flatten := own_below h2 hb4
  obtain ⟨q1, q2⟩ := List.getElem?_eq_some_iff.1 hx
  refine ⟨?_, ?_, ?_, ?_⟩
  · rw [List.take_add_one, hx]
    exact h1.snoc ⟨rfl, rfl, rfl, rfl, rfl⟩
  · simpa [Sec.cells4] using hv5
  · intro y hy
    rcases List.mem_append.1 hy with hy | hy
    · obtain ⟨a1, a2, a3⟩ := h3 y hy
      obtain ⟨b1, b2⟩ := own_grown (a1.kept hb4) (a2.kept hb4) hv hg
      exact ⟨b1, b2, a3⟩
    · obtain rfl := List.mem_singleton.1 hy
      obtain ⟨b1, b2⟩ := own_grown (hi.kept hal) (ho.kept hal) hv hg
      exact ⟨b1, fun a ha => ⟨Nat.le_trans h4.size (b2 a ha).1, (b2 a ha).2⟩, hc⟩
  · have hw4 := below_step h4 hb4
    refine ⟨hg.os.trans hw4.os, hg.tape.trans hw4.tape, hg.output.trans hw4.output, Nat.le_trans hw4.size hg.size, fun k hk => (hg.block k (Nat.lt_of_lt_of_le hk hw4.size) fun e => ?_).trans (hw4.block k hk)⟩
    obtain ⟨_, ⟨rfl, _⟩ | ⟨g, cap, cur', rfl, h6, h5, _⟩⟩ := hv
    · cases e
    · simp only [Value.ownBlock, Option.some.injEq] at e
      omega
set_option maxRecDepth 1000000 in
set_option maxHeartbeats 3200000 in
theorem copied_any (ao : Option Addr) (n cap : Nat) (l : List Sec) (w : World) (hz : Secs w ao n l) (hn : n ≤ 1048576) (hns : ∀ x ∈ l, x.n ≤ 1048576) (hnil : ∀ x ∈ l, x.ao = none → x.cap = 0) : Calls Tryz.prog 27 #[.slice ao n cap] w fun e w' =>
    ∃ v l', e = .returned v ∧ Cop w l n v l' w' := by
  have HZ := Lib.hid hz
  have HNS := Lib.hid hns
  have HNL := Lib.hid hnil
  clear hz hns hnil
  obtain ⟨i0, hi0, hz0, hz1, hz2⟩ := info_parts info2
  obtain ⟨j0, hj0, hy0, hy1, hy2⟩ := info_parts info93
  go_enter Tryz.func27, Tryz.ntmps27
  go_wp2
  go_loopg [3, 9] n (fun g s3 s9 wx => ∃ (i : Nat) (l' : List Sec), i + g = n ∧ s9 = .int .i64 i ∧ Hid (Cop w l i s3 l' wx))
  case atStart => exact ⟨0, [], by omega, rfl, ⟨trivial, World.ownsRow_nil _ _ _ _, fun y hy => (by cases hy), Below.refl _ _⟩⟩
  case round =>
    obtain ⟨i, l', hig, rfl, HR⟩ := hrel
    cases gk with
    | zero =>
      obtain rfl : i = n := by omega
      go_wp2
      go_ret
      exact ⟨_, l', rfl, HR.out⟩
    | succ g =>
      have hi : (i : Int) < (n : Int) := by omega
      have hil : i < l.length := by rw [HZ.out.len]; omega
      obtain ⟨x, hx⟩ : ∃ x, l[i]? = some x := ⟨_, List.getElem?_eq_getElem hil⟩
      have HS := Lib.hid (HZ.out.kept HR.out.2.2.2)
      obtain ⟨b, off, rfl, hb, hc⟩ := HS.out.row (by omega)
      obtain ⟨q0, q1, q2, q3⟩ := hc i x hx
      have HI := Lib.hid (HS.out.ints x (List.mem_of_getElem? hx))
      have HX := Lib.hid hx
      have hx0 := hx
      clear hc hx hb hil
      have hxm := List.mem_of_getElem? hx0
      have hxn := HNS.out x hxm
      have HXM := Lib.hid hxm
      clear hxm hx0
      obtain ⟨c, sv, wd, xo, xn, xc, zs⟩ := x
      simp only at q0 q1 q2 q3 HI hxn
      cases xo with
      | none =>
        obtain rfl : xn = 0 := by
          rcases Nat.eq_zero_or_pos xn with h | h
          · exact h
          · obtain ⟨b', off', h1, _⟩ := HI.out.row h
            cases h1
        obtain rfl : xc = 0 := HNL.out _ HXM.out rfl
        have hsz2 : ((wr.alloc (.cells #[.string c, .string sv, .string wd, .slice none 0 0] 93)).alloc (.cells #[.string c, .string sv, .string wd, .slice none 0 0] 93)).heap.size = wr.heap.size + 2 := by simp
        have hB2 : Below wr.heap.size wr ((wr.alloc (.cells #[.string c, .string sv, .string wd, .slice none 0 0] 93)).alloc (.cells #[.string c, .string sv, .string wd, .slice none 0 0] 93)) := ((Below.refl _ _).alloc (Nat.le_refl _) _).alloc (by simp) _
        have hi3 := HI.out.kept hB2
        go_upto_region 8 with (
          at_builtin
          refine wpList_append_own_none rfl _ _ 22 rfl (wr.heap.size + 2) 2 i0 1 Tryz.underlying22 hi0 _ 0 [] rfl (World.ownsRow_nil _ _ _ _) rfl ?_
          obtain ⟨g0, g1, gb, gs⟩ := two_blocks' (Below.refl ((wr.alloc (.cells #[.string c, .string sv, .string wd, .slice none 0 0] 93)).alloc (.cells #[.string c, .string sv, .string wd, .slice none 0 0] 93)).heap.size ((wr.alloc (.cells #[.string c, .string sv, .string wd, .slice none 0 0] 93)).alloc (.cells #[.string c, .string sv, .string wd, .slice none 0 0] 93)))
          generalize ((wr.alloc (.cells #[.string c, .string sv, .string wd, .slice none 0 0] 93)).alloc (.cells #[.string c, .string sv, .string wd, .slice none 0 0] 93)) = w3 at *
          have yk : w3.cell? ⟨wr.heap.size + 1, 3, none⟩ = some (.slice none 0 0) := by simp [World.cell?, g1]
          have yf : w3.frozen? ⟨wr.heap.size + 1, 3, none⟩ = false := by simp [World.frozen?, g1]
          have HI3 := Lib.hid hi3
          have G1 := Lib.hid g1
          have GB := Lib.hid gb
          have GS := Lib.hid gs
          clear hi3 g0 g1 gb gs)
        have f1 := setCell_same (o := 3) G1.out (.slice none 0 0)
        have fb := setCell_below (o := 3) GB.out (Nat.le_succ wr.heap.size) (.slice none 0 0)
        have fz := setCell_size w3 ⟨wr.heap.size + 1, 3, none⟩ (.slice none 0 0)
        have hne : ∀ a : Addr, (none : Option Addr) = some a → a.block ≠ wr.heap.size + 1 := fun a ha => by cases ha
        have fi := HI3.out.setCell (o := 3) hne (.slice none 0 0)
        have fo : OwnI wr.heap.size (w3.setCell ⟨wr.heap.size + 1, 3, none⟩ (.slice none 0 0)) none := OwnI.none _ _
        generalize w3.setCell ⟨wr.heap.size + 1, 3, none⟩ (.slice none 0 0) = w4 at *
        have t0 : w4.cell? ⟨wr.heap.size + 1, 0, none⟩ = some (.string c) := by simp [World.cell?, f1]
        have t1 : w4.cell? ⟨wr.heap.size + 1, 1, none⟩ = some (.string sv) := by simp [World.cell?, f1]
        have t2 : w4.cell? ⟨wr.heap.size + 1, 2, none⟩ = some (.string wd) := by simp [World.cell?, f1]
        have t3 : w4.cell? ⟨wr.heap.size + 1, 3, none⟩ = some (.slice none 0 0) := by simp [World.cell?, f1]
        have FB := Lib.hid fb
        have FI := Lib.hid fi
        have FO := Lib.hid fo
        have hw4 : wr.heap.size + 2 ≤ w4.heap.size := by rw [fz]; exact GS.out
        have HW4 := Lib.hid hw4
        clear f1 fb fz fi fo hne hw4 yk yf q0 q1 q2 q3 hB2 hsz2
        have HO4 := Lib.hid (own_below HR.out.2.1 FB.out)
        have HWB := Lib.hid (below_step HR.out.2.2.2 FB.out)
        go_wp2_with (
          at_builtin
          refine wpList_append_own _ rfl _ _ 48 rfl w.heap.size 93 j0 (.agg #[.string ⟨#[]⟩, .string ⟨#[]⟩, .string ⟨#[]⟩, .slice none 0 0]) 4 72 Tryz.underlying48 hj0 hy0 hy1 hy2 rfl (by decide) _ i _ rfl (HO4.out.alloc _) ⟨w4.heap.size, 0, none⟩ 1 1 [.string c, .string sv, .string wd, .slice none 0 0] rfl rfl (cell_four_new _ _ _ _ _ _) (fun u hu => by simp at hu; rcases hu with rfl | rfl | rfl | rfl <;> rfl) (by unfold maxLen; omega) (by omega) (by have := HWB.out.size; simp; omega) ?_
          intro v5 w5 hown5 hgrow5 hnil5
          have HX5 := Lib.hid (HR.out.next HX.out FB.out FI.out FO.out (fun _ => rfl) hown5 hgrow5)
          clear hown5 hgrow5 hnil5)
        go_roundg g
        case measure => omega
        case rel => exact ⟨i + 1, _, by omega, by first | rfl | simp, HX5.out⟩
      | some ad =>
        obtain ⟨xb, xf, sp⟩ := ad
        have hsz2 : ((wr.alloc (.cells #[.string c, .string sv, .string wd, .slice (some ⟨xb, xf, sp⟩) xn xc] 93)).alloc (.cells #[.string c, .string sv, .string wd, .slice none 0 0] 93)).heap.size = wr.heap.size + 2 := by simp
        have hB2 : Below wr.heap.size wr ((wr.alloc (.cells #[.string c, .string sv, .string wd, .slice (some ⟨xb, xf, sp⟩) xn xc] 93)).alloc (.cells #[.string c, .string sv, .string wd, .slice none 0 0] 93)) := ((Below.refl _ _).alloc (Nat.le_refl _) _).alloc (by simp) _
        have hnews : ∀ (j : Nat) u, (zs.map (Value.int .i64))[j]? = some u → ((wr.alloc (.cells #[.string c, .string sv, .string wd, .slice (some ⟨xb, xf, sp⟩) xn xc] 93)).alloc (.cells #[.string c, .string sv, .string wd, .slice none 0 0] 93)).cell? ((⟨xb, xf, sp⟩ : Addr).add j) = some u := fun j u hu => by
          have hI2 := HI.out.kept hB2
          rw [List.getElem?_map] at hu
          have hj : j < zs.length := by
            rcases Nat.lt_or_ge j zs.length with h | h
            · exact h
            · rw [List.getElem?_eq_none h] at hu; cases hu
          have hl := hI2.len
          obtain ⟨b', off', h1, _, h3⟩ := hI2.row (by omega)
          cases h1
          have hadd : (⟨xb, xf, none⟩ : Addr).add j = ⟨xb, xf + j, none⟩ := by unfold Addr.add; split <;> simp_all
          rw [hadd, h3 j (by omega)]
          rw [List.getElem?_eq_getElem hj] at hu
          simp only [Option.map_some, Option.some.injEq] at hu
          subst hu
          simp [List.getD, List.getElem?_eq_getElem hj]
        have HNW := Lib.hid hnews
        clear hnews
        go_upto_region 8 with (
          at_builtin
          refine wpList_append_own _ rfl _ _ 22 rfl (wr.heap.size + 2) 2 i0 (.int .i64 0) 1 8 Tryz.underlying22 hi0 hz0 hz1 hz2 rfl (by decide) _ 0 [] rfl (World.ownsRow_nil _ _ _ _) ⟨xb, xf, sp⟩ xn xc (zs.map (Value.int .i64)) rfl (by rw [List.length_map, HI.out.len, Nat.mul_one]) HNW.out (fun u hu => by obtain ⟨z, _, rfl⟩ := List.mem_map.1 hu; rfl) (by unfold maxLen; omega) (by omega) (by simp) ?_
          intro v' w3 hown' hgrow' hnil'
          simp only [Nat.zero_add, List.nil_append] at hown'
          obtain ⟨ao2, cap2, rfl, hi3, hf3, hc3⟩ := ints_own_t hown' HI.out.wf
          obtain ⟨g0, g1, gb, gs⟩ := two_blocks' (grown_below hgrow')
          have yk : w3.cell? ⟨wr.heap.size + 1, 3, none⟩ = some (.slice none 0 0) := by simp [World.cell?, g1]
          have yf : w3.frozen? ⟨wr.heap.size + 1, 3, none⟩ = false := by simp [World.frozen?, g1]
          have HI3 := Lib.hid hi3
          have HF3 := Lib.hid hf3
          have HC3 := Lib.hid hc3
          have G1 := Lib.hid g1
          have GB := Lib.hid gb
          have GS := Lib.hid gs
          clear hi3 hf3 hc3 g0 g1 gb gs hgrow' hown' hnil')
        have f1 := setCell_same (o := 3) G1.out (.slice ao2 xn cap2)
        have fb := setCell_below (o := 3) GB.out (Nat.le_succ wr.heap.size) (.slice ao2 xn cap2)
        have fz := setCell_size w3 ⟨wr.heap.size + 1, 3, none⟩ (.slice ao2 xn cap2)
        have hne : ∀ a, ao2 = some a → a.block ≠ wr.heap.size + 1 := fun a ha => by have := (HF3.out a ha).1; omega
        have fi := HI3.out.setCell (o := 3) hne (.slice ao2 xn cap2)
        have fo : OwnI wr.heap.size (w3.setCell ⟨wr.heap.size + 1, 3, none⟩ (.slice ao2 xn cap2)) ao2 := fun a ha => by
          obtain ⟨u1, cur, u2⟩ := HF3.out a ha
          exact ⟨by omega, cur, (setCell_other (hne a ha) _).trans u2⟩
        generalize w3.setCell ⟨wr.heap.size + 1, 3, none⟩ (.slice ao2 xn cap2) = w4 at *
        have t0 : w4.cell? ⟨wr.heap.size + 1, 0, none⟩ = some (.string c) := by simp [World.cell?, f1]
        have t1 : w4.cell? ⟨wr.heap.size + 1, 1, none⟩ = some (.string sv) := by simp [World.cell?, f1]
        have t2 : w4.cell? ⟨wr.heap.size + 1, 2, none⟩ = some (.string wd) := by simp [World.cell?, f1]
        have t3 : w4.cell? ⟨wr.heap.size + 1, 3, none⟩ = some (.slice ao2 xn cap2) := by simp [World.cell?, f1]
        have FB := Lib.hid fb
        have FI := Lib.hid fi
        have FO := Lib.hid fo
        have hw4 : wr.heap.size + 2 ≤ w4.heap.size := by rw [fz]; exact GS.out
        have HW4 := Lib.hid hw4
        clear f1 fb fz fi fo hne hw4 yk yf q0 q1 q2 q3 hB2 hsz2
        have HO4 := Lib.hid (own_below HR.out.2.1 FB.out)
        have HWB := Lib.hid (below_step HR.out.2.2.2 FB.out)
        go_wp2_with (
          at_builtin
          refine wpList_append_own _ rfl _ _ 48 rfl w.heap.size 93 j0 (.agg #[.string ⟨#[]⟩, .string ⟨#[]⟩, .string ⟨#[]⟩, .slice none 0 0]) 4 72 Tryz.underlying48 hj0 hy0 hy1 hy2 rfl (by decide) _ i _ rfl (HO4.out.alloc _) ⟨w4.heap.size, 0, none⟩ 1 1 [.string c, .string sv, .string wd, .slice ao2 xn cap2] rfl rfl (cell_four_new _ _ _ _ _ _) (fun u hu => by simp at hu; rcases hu with rfl | rfl | rfl | rfl <;> rfl) (by unfold maxLen; omega) (by omega) (by have := HWB.out.size; simp; omega) ?_
          intro v5 w5 hown5 hgrow5 hnil5
          have HX5 := Lib.hid (HR.out.next HX.out FB.out FI.out FO.out HC3.out hown5 hgrow5)
          clear hown5 hgrow5 hnil5)
        go_roundg g
        case measure => omega
        case rel => exact ⟨i + 1, _, by omega, by first | rfl | simp, HX5.out⟩
end Go.Proofs.Sa
