/- secrets: New. -/
import Derived.Deep.AppendLies
import Derived.Test.YtalanklghmcajaaGreatDoorPrSfD
import Derived.Test.YtalanklghmcajaaGreatDoorPrSaM
namespace Go.Proofs.Sa
open Go Go.RowKit Go.Pl Go.Maps
/-- What holds ahead of a round. -/
structure Nst (w : World) (t : Nat) (l : List Sec) (i : Nat) (v : Value) (l' : List Sec) (wx : World) : Prop where
  cell : wx.cell? ⟨t, 0, none⟩ = some v
  froz : wx.frozen? ⟨t, 0, none⟩ = false
  own : wx.ownsRow (t + 1) 24 4 v i (cellsL l')
  like : AllLike (l.take i) l'
  ints : ∀ y ∈ l', Ints wx y.ao y.n y.zs ∧ OwnI (t + 1) wx y.ao
  below : Below w.heap.size w wx
  lt : t < wx.heap.size
  tb : w.heap.size ≤ t
theorem Nst.kept {w : World} {t : Nat} {l : List Sec} {i : Nat} {v : Value} {l' : List Sec} {wx w' : World} (h : Nst w t l i v l' wx) (hb : Below wx.heap.size wx w') : Nst w t l i v l' w' :=
  ⟨(hb.cell (World.block_lt_of_cell? _ _ h.cell)).trans h.cell, (World.frozen?_of_block (hb.block _ h.lt)).trans h.froz, own_below h.own hb, h.like, fun y hy => ⟨(h.ints y hy).1.kept hb, (h.ints y hy).2.kept hb⟩, below_step h.below hb, Nat.lt_of_lt_of_le h.lt hb.size, h.tb⟩
/-- A secret's box. -/
structure K4 (b : Nat) (x : Sec) (w : World) : Prop where
  k0 : w.cell? ⟨b, 0, none⟩ = some (.string x.c)
  k1 : w.cell? ⟨b, 1, none⟩ = some (.string x.sv)
  k2 : w.cell? ⟨b, 2, none⟩ = some (.string x.wd)
  k3 : w.cell? ⟨b, 3, none⟩ = some (.slice x.ao x.n x.cap)
theorem K4.kept {b : Nat} {x : Sec} {w w' : World} (h : K4 b x w) (hb : Below w.heap.size w w') : K4 b x w' :=
  have k := fun (a : Addr) (v : Value) (hv : w.cell? a = some v) => (hb.cell (World.block_lt_of_cell? _ _ hv)).trans hv
  ⟨k _ _ h.k0, k _ _ h.k1, k _ _ h.k2, k _ _ h.k3⟩
theorem K4.grown {b : Nat} {x : Sec} {w w' : World} {r : Option Nat} (h : K4 b x w) (hg : w.grownBy w' r) (hr : some b ≠ r) : K4 b x w' :=
  have k := fun (o : Nat) (v : Value) (hv : w.cell? ⟨b, o, none⟩ = some v) => (hg.cell_far ⟨b, o, none⟩ (World.block_lt_of_cell? _ _ hv) hr).trans hv
  ⟨k _ _ h.k0, k _ _ h.k1, k _ _ h.k2, k _ _ h.k3⟩
theorem set_grown (w : World) (t o : Nat) (u : Value) : w.grownBy (w.setCell ⟨t, o, none⟩ u) (some t) :=
  ⟨rfl, rfl, rfl, by rw [setCell_size]; exact Nat.le_refl _, fun k _ hk => setCell_other (fun e => hk (by rw [e])) u⟩
theorem cell_set {w : World} {t o : Nat} {v : Value} (h : w.cell? ⟨t, o, none⟩ = some v) (u : Value) : (w.setCell ⟨t, o, none⟩ u).cell? ⟨t, o, none⟩ = some u := by
  unfold World.cell? at h
  cases hh : w.heap[t]? with
  | none => rw [hh] at h; cases h
  | some ob =>
    rw [hh] at h
    cases ob with
    | cells c e f =>
      have ho : o < c.size := (Array.getElem?_eq_some_iff.1 (by simpa using h)).1
      simp only [World.cell?, setCell_same hh]
      simp [ho]
    | _ => cases h
theorem froz_set {w : World} {t o : Nat} {v : Value} (h : w.cell? ⟨t, o, none⟩ = some v) (hf : w.frozen? ⟨t, o, none⟩ = false) (u : Value) : (w.setCell ⟨t, o, none⟩ u).frozen? ⟨t, o, none⟩ = false := by
  unfold World.cell? at h
  cases hh : w.heap[t]? with
  | none => rw [hh] at h; cases h
  | some ob =>
    rw [hh] at h
    cases ob with
    | cells c e f =>
      simp only [World.frozen?, setCell_same hh]
      simpa only [World.frozen?, hh] using hf
    | _ => cases h
theorem Nst.far {w : World} {t : Nat} {l : List Sec} {i : Nat} {v : Value} {l' : List Sec} {wx : World} (h : Nst w t l i v l' wx) : some t ≠ v.ownBlock := fun e => by
  have := (h.own.lt t e.symm).1
  omega
theorem Nst.next {w wx wA : World} {t i k : Nat} {l l' : List Sec} {v v' : Value} {x : Sec} {ao : Option Addr} {cap : Nat} (h : Nst w t l i v l' wx) (hx : l[i]? = some x) (hi : Ints wx ao x.n x.zs) (ho : OwnI (t + 1) wx ao)
    (hown : wA.ownsRow (t + 1) 24 4 v' (i + 1) (cellsL l' ++ [.string x.c, .string x.sv, .string x.wd, .slice ao x.n cap])) (hg : wx.grownBy wA v.ownBlock) (hv : v'.ownBlock = some k) : Nst w t l (i + 1) v' (l' ++ [⟨x.c, x.sv, x.wd, ao, x.n, cap, x.zs⟩]) (wA.setCell ⟨t, 0, none⟩ v') := by
  have hc : wA.cell? ⟨t, 0, none⟩ = some v := (hg.cell_far ⟨t, 0, none⟩ h.lt h.far).trans h.cell
  have hf : wA.frozen? ⟨t, 0, none⟩ = false := (hg.frozen_far ⟨t, 0, none⟩ h.lt h.far).trans h.froz
  have hk : t + 1 ≤ k := (hown.lt k hv).1
  have hI : ∀ y ∈ l' ++ [⟨x.c, x.sv, x.wd, ao, x.n, cap, x.zs⟩], Ints wx y.ao y.n y.zs ∧ OwnI (t + 1) wx y.ao := fun y hy => by
    rcases List.mem_append.1 hy with hy | hy
    · exact h.ints y hy
    · obtain rfl := List.mem_singleton.1 hy
      exact ⟨hi, ho⟩
  refine ⟨cell_set hc v', froz_set hc hf v', ?_, ?_, fun y hy => ?_, ?_, by rw [setCell_size]; exact Nat.lt_of_lt_of_le h.lt hg.size, h.tb⟩
  · have := hown.kept (set_grown wA t 0 v') (.inr (by rw [hv]; intro e; cases e; omega))
    simpa [cellsL, Sec.cells4] using this
  · rw [List.take_add_one, hx]
    exact h.like.snoc ⟨rfl, rfl, rfl, rfl, rfl⟩
  · obtain ⟨h1, h2⟩ := hI y hy
    obtain ⟨h3, h4⟩ := own_grown h1 h2 h.own hg
    have hne : ∀ a, y.ao = some a → a.block ≠ t := fun a ha => by have := (h4 a ha).1; omega
    exact ⟨h3.setCell hne _, h4.setCell hne _⟩
  · refine setCell_below (h.below.grown hg (Nat.le_trans h.tb (Nat.le_of_lt h.lt)) fun j hj => ?_) h.tb _
    exact Nat.le_trans h.tb (Nat.le_trans (Nat.le_succ _) (h.own.lt j hj).1)
set_option maxRecDepth 1000000 in
set_option maxHeartbeats 3200000 in
theorem new_bad (ao : Option Addr) (n cap : Nat) (l : List Sec) (w : World) (hz : Secs w ao n l) (hb : (wrongR l).1 ≠ 0) : Calls Tryz.prog 20 #[.slice ao n cap] w fun e w' => e = .returned (.tuple #[.pointer none, .int .i64 (wrongR l).1, .int .i64 (wrongR l).2]) ∧ Below w.heap.size w w' := by
  have HW := Lib.hid (wrong_any ao n cap l w hz)
  clear hz
  have hb' : ((wrongR l).1 != 0) = true := by simpa using hb
  go_enter Tryz.func20, Tryz.ntmps20
  go_wp2_with (go_at_call 42; refine HW.out.mono ?_; rintro e w2 ⟨rfl, hb2⟩)
  go_ret3
  exact ⟨by simp, hb2⟩
set_option maxRecDepth 1000000 in
set_option maxHeartbeats 3200000 in
theorem new_good (ao : Option Addr) (n cap : Nat) (l : List Sec) (w : World) (hz : Secs w ao n l) (hn : n ≤ 1048576) (hns : ∀ x ∈ l, x.n ≤ 1048576) (hb : wrongR l = (0, 0)) : Calls Tryz.prog 20 #[.slice ao n cap] w fun e w' =>
    ∃ t v l', e = .returned (.tuple #[.pointer (some ⟨t, 0, none⟩), .int .i64 0, .int .i64 0]) ∧ Nst w t l n v l' w' := by
  obtain ⟨j0, hj0, hy0, hy1, hy2⟩ := info_parts info24
  have hw := wrong_any ao n cap l w hz
  rw [hb] at hw
  have HW := Lib.hid hw
  have HZ := Lib.hid hz
  have HN := Lib.hid hns
  clear hz hw hns
  go_enter Tryz.func20, Tryz.ntmps20
  go_wp2_with (go_at_call 42; refine HW.out.mono ?_; rintro e w1 ⟨rfl, hb1⟩; have HB1 := Lib.hid hb1; clear hb1)
  have h0 : (w1.alloc (.cells #[.slice none 0 0] 72)).heap[w1.heap.size]? = some (.cells #[.slice none 0 0] 72 (0, 0)) := heap_alloc_new w1 _
  have HS0 : Hid (Nst w w1.heap.size l 0 (.slice none 0 0) [] (w1.alloc (.cells #[.slice none 0 0] 72))) := Lib.hid
    ⟨by simp only [World.cell?, h0]; rfl, by simp only [World.frozen?, h0]; rfl, World.ownsRow_nil _ _ _ _, trivial, fun y hy => (by cases hy), below_step HB1.out ((Below.refl _ _).alloc (Nat.le_refl _) _), by simp, HB1.out.size⟩
  clear h0
  generalize w1.heap.size = t at *
  generalize (w1.alloc (.cells #[.slice none 0 0] 72)) = w2 at *
  go_loopg [23] n (fun g s23 wx => ∃ (i : Nat) (v : Value) (l' : List Sec), i + g = n ∧ s23 = .int .i64 i ∧ Hid (Nst w t l i v l' wx))
  case atStart => exact ⟨0, _, [], by omega, rfl, HS0⟩
  case round =>
    obtain ⟨i, v, l', hig, rfl, HR⟩ := hrel
    cases gk with
    | zero =>
      obtain rfl : i = n := by omega
      go_wp2
      go_ret3
      exact ⟨t, v, l', by simp, HR.out⟩
    | succ g =>
      have hi : (i : Int) < (n : Int) := by omega
      have hil : i < l.length := by rw [HZ.out.len]; omega
      obtain ⟨x, hx⟩ : ∃ x, l[i]? = some x := ⟨_, List.getElem?_eq_getElem hil⟩
      have HS := Lib.hid (HZ.out.kept HR.out.below)
      obtain ⟨b, off, rfl, hb, hc⟩ := HS.out.row (by omega)
      obtain ⟨q0, q1, q2, q3⟩ := hc i x hx
      have HI := Lib.hid (HS.out.ints x (List.mem_of_getElem? hx))
      have HX := Lib.hid hx
      have hxn := HN.out x (List.mem_of_getElem? hx)
      clear hc hx hb hil
      have HB := Lib.hid (Box4.start wr (.string x.c) (.string x.sv) (.string x.wd) (.slice x.ao x.n x.cap) 24)
      have k0 := HB.out.k0
      have k1 := HB.out.k1
      have k2 := HB.out.k2
      have k3 := HB.out.k3
      have HN2 := Lib.hid (HR.out.kept HB.out.below)
      have tc := HN2.out.cell
      have tf := HN2.out.froz
      have HO := Lib.hid (fun w' (hb : Below wr.heap.size wr w') => own_any x.c x.sv x.wd x.ao x.n x.cap x.zs w' (HI.out.kept hb) hxn)
      have hwr : wrap64 ((i : Int) + 1) = (i : Int) + 1 := by unfold wrap64; omega
      have HWR := Lib.hid hwr
      clear hwr
      have hdr : Below (wr.alloc (.cells #[.string x.c, .string x.sv, .string x.wd, .slice x.ao x.n x.cap] 24)).heap.size (wr.alloc (.cells #[.string x.c, .string x.sv, .string x.wd, .slice x.ao x.n x.cap] 24)) (wr.alloc (.cells #[.string x.c, .string x.sv, .string x.wd, .slice x.ao x.n x.cap] 24)).drew := ⟨rfl, rfl, rfl, Nat.le_refl _, fun _ _ => rfl⟩
      have HKd : Hid (K4 wr.heap.size x (wr.alloc (.cells #[.string x.c, .string x.sv, .string x.wd, .slice x.ao x.n x.cap] 24)).drew) := Lib.hid (K4.kept ⟨k0, k1, k2, k3⟩ hdr)
      have HBd := Lib.hid (below_step HB.out.below hdr)
      have HN3 := Lib.hid (HN2.out.kept hdr)
      have td := HN3.out.cell
      have tdf := HN3.out.froz
      have hlt := HN2.out.lt
      have hnt : t ≠ wr.heap.size := by have := HR.out.lt; omega
      have HNT := Lib.hid hnt
      clear hdr hlt hnt
      go_wp2
      go_region_law (first
          | (go_simp
             go_at_call 36
             refine (HO.out _ HBd.out).mono ?_
             rintro e w5 ⟨ao', cap', rfl, hi5, hb5, ho5⟩
             have HN5 := Lib.hid (HN3.out.kept hb5)
             have tc5 := HN5.out.cell
             have tf5 := HN5.out.froz
             have HK5 := Lib.hid (HKd.out.kept hb5)
             have hal5 : Below w5.heap.size w5 (w5.alloc (.cells #[.string x.c, .string x.sv, .string x.wd, .slice ao' x.n cap'] 24)) := (Below.refl _ _).alloc (Nat.le_refl _) _
             have HN6 := Lib.hid (HN5.out.kept hal5)
             have tc6 := HN6.out.cell
             have tf6 := HN6.out.froz
             have HK6 := Lib.hid (HK5.out.kept hal5)
             have HI6 := Lib.hid (hi5.kept hal5)
             have HO6 := Lib.hid ((ho5.mono (base' := t + 1) (by have := HR.out.lt; simp; omega)).kept hal5)
             clear hi5 hb5 ho5 hal5)
          | (refine step_append_lies _ (by rfl) _ _ _ (by rfl) (t + 1) 24 j0 _ 4 72 Tryz.underlying25 hj0 hy0 hy1 hy2 rfl (by decide) v i (cellsL l') (by rfl) HN6.out.own
               ⟨w5.heap.size, 0, none⟩ 1 1 [.string x.c, .string x.sv, .string x.wd, .slice ao' x.n cap'] (by rfl) (by rfl) (World.news_of_block (cs := #[.string x.c, .string x.sv, .string x.wd, .slice ao' x.n cap']) (t := 24) (fr := (0, 0)) (heap_alloc_new w5 _)) (by simp [Value.oneCell'])
               (by omega) (by unfold maxLen; omega) (by omega) (by have := HN6.out.lt; omega) (w5.heap.size + 1) (by simp) ?_
             intro g2 cap2 wA hownA hgA _ _
             have HX5 := Lib.hid (HN6.out.next HX.out HI6.out HO6.out hownA hgA rfl)
             have tcA := (hgA.cell_far ⟨t, 0, none⟩ HN6.out.lt HN6.out.far).trans HN6.out.cell
             have tfA := (hgA.frozen_far ⟨t, 0, none⟩ HN6.out.lt HN6.out.far).trans HN6.out.froz
             have HKA := Lib.hid (HK6.out.grown hgA (by intro e; have := (HR.out.own.lt _ e.symm).2; omega))
             have HKS := Lib.hid (HKA.out.grown (set_grown wA t 0 (.slice (some ⟨g2, 0, none⟩) (i + 1) cap2)) (by intro e; cases e; exact HNT.out rfl))
             clear hownA hgA))
      all_goals
        (go_wp2
         go_roundg g
         case measure => omega
         case rel => exact ⟨i + 1, _, _, by omega, by simp, HX5⟩)
end Go.Proofs.Sa
