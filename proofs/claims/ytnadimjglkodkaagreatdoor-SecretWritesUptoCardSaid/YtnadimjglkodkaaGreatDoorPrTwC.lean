/- secrets: the program's line. -/
import Derived.Test.YtnadimjglkodkaaGreatDoorPrTwB
import Derived.Test.YtnadimjglkodkaaGreatDoorPrTwP
import Derived.Test.YtnadimjglkodkaaGreatDoorPrTzE
namespace Go.Proofs.Sr
open Go Go.RowKit Go.Pl Go.Proofs.Sa
theorem results_row4 {P : Program} {fn : Func} {p u1 u2 u3 : Tmp} {ty : TypeId} (h : fn.results = #[.cell p ty, .tmp u1, .tmp u2, .tmp u3]) (tmps : Array Value) (w : World) (g : Nat) (t : TypeId) (cs : Array Value) (fr : Nat × Nat) (d : TypeDesc)
    (hp : tmps.getD p undef = .pointer (some ⟨g, 0, none⟩)) (hg : w.heap[g]? = some (.cells cs t fr))
    (hu : P.underlying ty = some d) (hd : (match d with | .struct _ | .array _ _ => true | _ => false) = true) (hi : (P.info? ty).map (·.size) = some cs.size) :
    (results fn tmps).run P w = .ok (.tuple #[.agg cs, tmps.getD u1 undef, tmps.getD u2 undef, tmps.getD u3 undef]) w := by
  have hp' : tmps[p]?.getD undef = .pointer (some ⟨g, 0, none⟩) := by simpa using hp
  have hl := run_loadVar_row w g t ty cs fr d hg hu hd hi
  simp [results, h, hp', asAddr, Sem.run_bind, Result.andThen, hl]
theorem results_row3 {P : Program} {fn : Func} {p u1 u2 : Tmp} {ty : TypeId} (h : fn.results = #[.cell p ty, .tmp u1, .tmp u2]) (tmps : Array Value) (w : World) (g : Nat) (t : TypeId) (cs : Array Value) (fr : Nat × Nat) (d : TypeDesc)
    (hp : tmps.getD p undef = .pointer (some ⟨g, 0, none⟩)) (hg : w.heap[g]? = some (.cells cs t fr))
    (hu : P.underlying ty = some d) (hd : (match d with | .struct _ | .array _ _ => true | _ => false) = true) (hi : (P.info? ty).map (·.size) = some cs.size) :
    (results fn tmps).run P w = .ok (.tuple #[.agg cs, tmps.getD u1 undef, tmps.getD u2 undef]) w := by
  have hp' : tmps[p]?.getD undef = .pointer (some ⟨g, 0, none⟩) := by simpa using hp
  have hl := run_loadVar_row w g t ty cs fr d hg hu hd hi
  simp [results, h, hp', asAddr, Sem.run_bind, Result.andThen, hl]
abbrev zeroV : Value := .agg #[.string ⟨#[]⟩, .string ⟨#[]⟩, .string ⟨#[]⟩, .slice none 0 0]
/-- What a line answers. -/
def LRet (l : List UInt8) (ev : Value) (w : World) (e : Ending) (w' : World) : Prop :=
  (∀ k, lineS l = .error k → e = .returned (.tuple #[zeroV, .bool false, .int .i64 k, ev])) ∧
  (lineS l = .ok none → e = .returned (.tuple #[zeroV, .bool false, .int .i64 0, .nilIface])) ∧
  (∀ x : Said, lineS l = .ok (some x) → ∃ ao cap, e = .returned (.tuple #[.agg #[strV x.1, strV x.2.1, strV x.2.2.1, .slice ao x.2.2.2.length cap], .bool true, .int .i64 0, .nilIface]) ∧ Ints w' ao x.2.2.2.length x.2.2.2 ∧ OwnI w.heap.size w' ao ∧ (ao = none → cap = 0)) ∧ Below w.heap.size w w'
theorem LRet.err {l : List UInt8} {ev : Value} {w w' : World} {k : Int} (h : lineS l = .error k) (hb : Below w.heap.size w w') : LRet l ev w (.returned (.tuple #[zeroV, .bool false, .int .i64 k, ev])) w' :=
  ⟨fun k' e => (by rw [h] at e; cases e; rfl), fun e => (by rw [h] at e; cases e), fun x e => (by rw [h] at e; cases e), hb⟩
theorem LRet.quiet {l : List UInt8} {ev : Value} {w w' : World} (h : lineS l = .ok none) (hb : Below w.heap.size w w') : LRet l ev w (.returned (.tuple #[zeroV, .bool false, .int .i64 0, .nilIface])) w' :=
  ⟨fun k' e => (by rw [h] at e; cases e), fun _ => rfl, fun x e => (by rw [h] at e; cases e), hb⟩
theorem LRet.good {l : List UInt8} {ev : Value} {w w' : World} {c sv wd : List UInt8} {zs : List Int} {ao : Option Addr} {n cap : Nat} (h : lineS l = .ok (some (c, sv, wd, zs))) (hn : zs.length = n) (hi : Ints w' ao n zs) (ho : OwnI w.heap.size w' ao) (hc : ao = none → cap = 0) (hb : Below w.heap.size w w') :
    LRet l ev w (.returned (.tuple #[.agg #[strV c, strV sv, strV wd, .slice ao n cap], .bool true, .int .i64 0, .nilIface])) w' :=
  ⟨fun k' e => (by rw [h] at e; cases e), fun e => (by rw [h] at e; cases e), fun x e => (by rw [h] at e; cases e; subst hn; exact ⟨ao, cap, rfl, hi, ho, hc⟩), hb⟩
/-- A secret's box. -/
structure Lb (w : World) (b : Nat) (x0 x1 x2 x3 : Value) (wx : World) : Prop where
  bk : wx.heap[b]? = some (.cells #[x0, x1, x2, x3] 93 (0, 0))
  below : Below w.heap.size w wx
  le : w.heap.size ≤ b
theorem Lb.kept {w : World} {b : Nat} {x0 x1 x2 x3 : Value} {wx w' : World} (h : Lb w b x0 x1 x2 x3 wx) (hb : Below wx.heap.size wx w') : Lb w b x0 x1 x2 x3 w' :=
  ⟨(hb.block _ (Array.getElem?_eq_some_iff.1 h.bk).1).trans h.bk, below_step h.below hb, h.le⟩
theorem Lb.new (w : World) (x0 x1 x2 x3 : Value) : Lb w w.heap.size x0 x1 x2 x3 (w.alloc (.cells #[x0, x1, x2, x3] 93)) :=
  ⟨heap_alloc_new w _, (Below.refl _ _).alloc (Nat.le_refl _) _, Nat.le_refl _⟩
theorem Lb.cell {w : World} {b : Nat} {x0 x1 x2 x3 : Value} {wx : World} (h : Lb w b x0 x1 x2 x3 wx) : wx.cell? ⟨b, 0, none⟩ = some x0 ∧ wx.cell? ⟨b, 1, none⟩ = some x1 ∧ wx.cell? ⟨b, 2, none⟩ = some x2 ∧ wx.cell? ⟨b, 3, none⟩ = some x3 := by
  refine ⟨?_, ?_, ?_, ?_⟩ <;> (simp only [World.cell?, h.bk]; rfl)
theorem Lb.froz {w : World} {b : Nat} {x0 x1 x2 x3 : Value} {wx : World} (h : Lb w b x0 x1 x2 x3 wx) (j : Nat) : wx.frozen? ⟨b, j, none⟩ = false := by simp [World.frozen?, h.bk]
theorem Lb.put {w : World} {b : Nat} {x0 x1 x2 x3 : Value} {wx : World} (h : Lb w b x0 x1 x2 x3 wx) (y0 y1 y2 y3 : Value) : Lb w b y0 y1 y2 y3 ((((wx.setCell ⟨b, 0, none⟩ y0).setCell ⟨b, 1, none⟩ y1).setCell ⟨b, 2, none⟩ y2).setCell ⟨b, 3, none⟩ y3) := by
  have e1 := setCell_same (o := 0) h.bk y0
  have e2 := setCell_same (o := 1) e1 y1
  have e3 := setCell_same (o := 2) e2 y2
  have e4 := setCell_same (o := 3) e3 y3
  exact ⟨e4, setCell_below (setCell_below (setCell_below (setCell_below h.below h.le _) h.le _) h.le _) h.le _, h.le⟩
theorem Lb.put3 {w : World} {b : Nat} {x0 x1 x2 x3 : Value} {wx : World} (h : Lb w b x0 x1 x2 x3 wx) (y3 : Value) : Lb w b x0 x1 x2 y3 (wx.setCell ⟨b, 3, none⟩ y3) :=
  ⟨setCell_same (o := 3) h.bk y3, setCell_below h.below h.le _, h.le⟩
/-- Where the reading of a line's addresses stands. -/
structure Ls (w : World) (b g : Nat) (W : List (List UInt8)) (x0 x1 x2 : Value) (B j : Nat) (v : Value) (rest : List (List UInt8)) (wx : World) : Prop where
  lb : Lb w b x0 x1 x2 v wx
  row : ∀ (k : Nat) x, W[k]? = some x → wx.cell? ⟨g, k, none⟩ = some (strV x)
  own : wx.ownsRow B 2 1 v j ((adrs (rest.take j)).map (Value.int .i64))
  gB : g < B
  bB : b < B
  gb : g ≠ b
  Bs : B ≤ wx.heap.size
theorem Ls.kept {w : World} {b g : Nat} {W : List (List UInt8)} {x0 x1 x2 : Value} {B j : Nat} {v : Value} {rest : List (List UInt8)} {wx w' : World} (h : Ls w b g W x0 x1 x2 B j v rest wx) (hb : Below wx.heap.size wx w') : Ls w b g W x0 x1 x2 B j v rest w' :=
  ⟨h.lb.kept hb, fun k x hx => (hb.cell (Nat.lt_of_lt_of_le h.gB h.Bs)).trans (h.row k x hx), own_below h.own hb, h.gB, h.bB, h.gb, Nat.le_trans h.Bs hb.size⟩
theorem Ls.far {w : World} {b g : Nat} {W : List (List UInt8)} {x0 x1 x2 : Value} {B j : Nat} {v : Value} {rest : List (List UInt8)} {wx : World} (h : Ls w b g W x0 x1 x2 B j v rest wx) (k : Nat) (hk : k < B) : some k ≠ v.ownBlock := fun e => by
  have := (h.own.lt k e.symm).1
  omega
theorem Ls.grown {w : World} {b g : Nat} {W : List (List UInt8)} {x0 x1 x2 : Value} {B j : Nat} {v : Value} {rest : List (List UInt8)} {wx w3 : World} (h : Ls w b g W x0 x1 x2 B j v rest wx) (hg : wx.grownBy w3 v.ownBlock) : w3.cell? ⟨b, 3, none⟩ = some v ∧ w3.frozen? ⟨b, 3, none⟩ = false := by
  have hl : b < wx.heap.size := Nat.lt_of_lt_of_le h.bB h.Bs
  have e1 : w3.heap[b]? = wx.heap[b]? := hg.block b hl (h.far b h.bB)
  exact ⟨(World.cell?_of_block e1).trans h.lb.cell.2.2.2, (World.frozen?_of_block e1).trans (h.lb.froz 3)⟩
theorem Ls.next {w : World} {b g : Nat} {W : List (List UInt8)} {x0 x1 x2 : Value} {B j k : Nat} {v v' : Value} {rest : List (List UInt8)} {y : List UInt8} {wx w3 : World} (h : Ls w b g W x0 x1 x2 B j v rest wx) (hy : rest[j]? = some y)
    (hown : w3.ownsRow B 2 1 v' (j + 1) ((adrs (rest.take j)).map (Value.int .i64) ++ [.int .i64 (addrR y).1])) (hg : wx.grownBy w3 v.ownBlock) (hv : v'.ownBlock = some k) : Ls w b g W x0 x1 x2 B (j + 1) v' rest (w3.setCell ⟨b, 3, none⟩ v') := by
  have hl : b < wx.heap.size := Nat.lt_of_lt_of_le h.bB h.Bs
  have hlg : g < wx.heap.size := Nat.lt_of_lt_of_le h.gB h.Bs
  have e1 : w3.heap[b]? = wx.heap[b]? := hg.block b hl (h.far b h.bB)
  have e2 : w3.heap[g]? = wx.heap[g]? := hg.block g hlg (h.far g h.gB)
  have hk : B ≤ k := (hown.lt k hv).1
  have hb3 : Below w.heap.size w w3 := h.lb.below.grown hg (by have := h.lb.le; omega) (fun q hq => by
    have := (h.own.lt q hq).1
    have := h.lb.le; have := h.bB; omega)
  have hlb : Lb w b x0 x1 x2 v w3 := ⟨e1.trans h.lb.bk, hb3, h.lb.le⟩
  refine ⟨hlb.put3 v', fun q x hx => (World.cell?_of_block (setCell_other h.gb v')).trans ((World.cell?_of_block e2).trans (h.row q x hx)), ?_, h.gB, h.bB, h.gb, by rw [setCell_size]; exact Nat.le_trans h.Bs hg.size⟩
  have := hown.kept (set_grown w3 b 3 v') (.inr (by rw [hv]; intro e; cases e; have := h.bB; omega))
  rw [List.take_add_one, hy]
  simp only [Option.toList_some]
  rw [adrs_snoc, List.map_append]
  exact this
theorem Ls.put {w : World} {b g : Nat} {W : List (List UInt8)} {x0 x1 x2 : Value} {B : Nat} {rest : List (List UInt8)} {wx : World} (h : Ls w b g W x0 x1 x2 B 0 (.slice none 0 0) rest wx) (y0 y1 y2 : Value) : Ls w b g W y0 y1 y2 B 0 (.slice none 0 0) rest ((((wx.setCell ⟨b, 0, none⟩ y0).setCell ⟨b, 1, none⟩ y1).setCell ⟨b, 2, none⟩ y2).setCell ⟨b, 3, none⟩ (.slice none 0 0)) := by
  refine ⟨h.lb.put y0 y1 y2 _, fun q x hx => ?_, World.ownsRow_nil _ _ _ _, h.gB, h.bB, h.gb, by simp only [setCell_size]; exact h.Bs⟩
  refine (World.cell?_of_block ?_).trans (h.row q x hx)
  show ((((wx.setCell ⟨b, 0, none⟩ y0).setCell ⟨b, 1, none⟩ y1).setCell ⟨b, 2, none⟩ y2).setCell ⟨b, 3, none⟩ (.slice none 0 0)).heap[g]? = _
  rw [setCell_other h.gb, setCell_other h.gb, setCell_other h.gb, setCell_other h.gb]
theorem own_row {w : World} {base n : Nat} {e : TypeId} {v : Value} {xs : List Value} (h : w.ownsRow base e 1 v n xs) (hn : 0 < n) : ∃ g cap, v = .slice (some ⟨g, 0, none⟩) n cap ∧ n ≤ cap ∧ base ≤ g ∧ g < w.heap.size ∧ ∀ (k : Nat) x, xs[k]? = some x → w.cell? ⟨g, k, none⟩ = some x := by
  obtain ⟨hl, ⟨rfl, h0⟩ | ⟨g, cap, cur, rfl, hg, hh, hnc, _, _, ht⟩⟩ := h
  · omega
  · refine ⟨g, cap, rfl, hnc, hg, (Array.getElem?_eq_some_iff.1 hh).1, fun k x hx => ?_⟩
    have hk := (List.getElem?_eq_some_iff.1 hx).1
    simp only [World.cell?, hh]
    rw [← Array.getElem?_toList]
    rw [← ht, List.getElem?_take_of_lt (by rw [hl] at hk; exact hk)] at hx
    exact hx
theorem wordsV_get (ws : List (List UInt8)) (k : Nat) (x : List UInt8) (h : ws[k]? = some x) : (wordsV ws)[k]? = some (strV x) := by simp [wordsV, h]
set_option maxRecDepth 1000000 in
set_option maxHeartbeats 3200000 in
theorem line_any (s : ByteArray) (hs : s.size < 4294967281) (t : TypeId) (pv : Value) (w : World) (hC : Consts w) (hE : w.cell? ⟨0, 0, none⟩ = some (.iface t pv)) : Calls Tryz.prog 68 #[.string s] w (LRet s.data.toList (.iface t pv) w) := by
  have HSZ := Lib.hid (Lib.size_eq s)
  have h0 : 0 < w.heap.size := World.block_lt_of_cell? _ _ hE
  by_cases hL : 1024 < s.size
  · have c0 : (1024 : Int) < (s.size : Int) := by omega
    have HF := Lib.hid (lineS_long (s := s.data.toList) (by rw [← HSZ.out]; exact hL))
    have HB := Lib.hid ((Lb.new w (.string ⟨#[]⟩) (.string ⟨#[]⟩) (.string ⟨#[]⟩) (.slice none 0 0)).kept ⟨rfl, rfl, rfl, Nat.le_refl _, fun _ _ => rfl⟩ : Lb w w.heap.size (.string ⟨#[]⟩) (.string ⟨#[]⟩) (.string ⟨#[]⟩) (.slice none 0 0) (w.alloc (.cells #[.string ⟨#[]⟩, .string ⟨#[]⟩, .string ⟨#[]⟩, .slice none 0 0] 93)).drew)
    go_enter Tryz.func68, Tryz.ntmps68
    go_wp2
    go_region
    all_goals
      (go_wp2
       refine bodyPost_ret (results_row4 rfl _ _ w.heap.size 93 #[.string ⟨#[]⟩, .string ⟨#[]⟩, .string ⟨#[]⟩, .slice none 0 0] (0, 0) _ rfl HB.out.bk Tryz.underlying93 rfl (by kernel_rfl)) rfl ?_
       exact LRet.err HF.out HB.out.below)
  have c0 : ¬ (1024 : Int) < (s.size : Int) := by omega
  have HL := Lib.hid (show ¬ 1024 < s.data.toList.length by rw [← HSZ.out]; exact hL)
  have HB1 := Lib.hid (Lb.new w (.string ⟨#[]⟩) (.string ⟨#[]⟩) (.string ⟨#[]⟩) (.slice none 0 0))
  have HW := Lib.hid (words_any s hs t pv (w.alloc (.cells #[.string ⟨#[]⟩, .string ⟨#[]⟩, .string ⟨#[]⟩, .slice none 0 0] 93)) (by simp) ((HB1.out.below.cell h0).trans hE))
  have HCo := Lib.hid hC
  have HEo := Lib.hid hE
  clear hC hE
  generalize hb : w.heap.size = b at *
  cases hw : wordsS (s.data.toList.length + 1) [] s.data.toList with
  | none =>
    have HF := Lib.hid (lineS_none HL.out hw)
    have HN := Lib.hid hw
    clear hw
    go_enter Tryz.func68, Tryz.ntmps68
    go_upto_region 4 with (go_at_call 89; go_loud (refine HW.out.mono ?_; rintro e w2 ⟨_, hg2, hb2⟩; obtain rfl := hg2 HN.out; have HB2 := Lib.hid (HB1.out.kept hb2); obtain ⟨k0, k1, k2, k3⟩ := HB2.out.cell; have f0 := HB2.out.froz 0; have f1 := HB2.out.froz 1; have f2 := HB2.out.froz 2; have f3 := HB2.out.froz 3; have kE := (HB2.out.below.cell (p := ⟨0, 0, none⟩) (by rw [hb]; exact h0)).trans HEo.out; clear hg2 hb2))
    have HP := Lib.hid ((HB2.out.put (.string ⟨#[]⟩) (.string ⟨#[]⟩) (.string ⟨#[]⟩) (.slice none 0 0)).kept ⟨rfl, rfl, rfl, Nat.le_refl _, fun _ _ => rfl⟩ : Lb w b (.string ⟨#[]⟩) (.string ⟨#[]⟩) (.string ⟨#[]⟩) (.slice none 0 0) ((((w2.setCell ⟨b, 0, none⟩ (.string ⟨#[]⟩)).setCell ⟨b, 1, none⟩ (.string ⟨#[]⟩)).setCell ⟨b, 2, none⟩ (.string ⟨#[]⟩)).setCell ⟨b, 3, none⟩ (.slice none 0 0)).drew)
    go_wp2
    go_region
    all_goals
      (go_wp2
       refine bodyPost_ret (results_row4 rfl _ _ b 93 #[.string ⟨#[]⟩, .string ⟨#[]⟩, .string ⟨#[]⟩, .slice none 0 0] (0, 0) _ rfl HP.out.bk Tryz.underlying93 rfl (by kernel_rfl)) rfl ?_
       exact LRet.err HF.out HP.out.below)
  | some ws =>
    have HN := Lib.hid hw
    have hsz1 : (w.alloc (.cells #[.string ⟨#[]⟩, .string ⟨#[]⟩, .string ⟨#[]⟩, .slice none 0 0] 93)).heap.size = b + 1 := by simp [hb]
    by_cases hfew : ws.length < 3
    · have hfl : (ws.length : Int) = 0 ∨ (ws.length : Int) = 1 ∨ (ws.length : Int) = 2 := by omega
      generalize hn : ws.length = n at *
      have HF0 := Lib.hid (show n = 0 → lineS s.data.toList = .ok none from fun h => lineS_zero HL.out (by rw [hw, List.length_eq_zero_iff.1 (hn.trans h)]))
      have HF12 := Lib.hid (show n = 1 ∨ n = 2 → lineS s.data.toList = .error 50 from fun h => lineS_few HL.out hw (by rw [hn]; exact h))
      have HNn := Lib.hid hn
      clear hw hn
      rcases (show n = 0 ∨ n = 1 ∨ n = 2 by omega) with rfl | rfl | rfl
      · go_enter Tryz.func68, Tryz.ntmps68
        go_upto_region 4 with (go_at_call 89; go_loud (refine HW.out.mono ?_; rintro e w2 ⟨hg1, _, hb2⟩; obtain ⟨v, rfl, ho⟩ := hg1 ws HN.out; rw [HNn.out] at ho; obtain ⟨ao, cap, rfl⟩ := own_slice ho; have HB2 := Lib.hid (HB1.out.kept hb2); obtain ⟨k0, k1, k2, k3⟩ := HB2.out.cell; have f0 := HB2.out.froz 0; have f1 := HB2.out.froz 1; have f2 := HB2.out.froz 2; have f3 := HB2.out.froz 3; clear hg1 hb2 ho))
        have HP := Lib.hid (HB2.out.put (.string ⟨#[]⟩) (.string ⟨#[]⟩) (.string ⟨#[]⟩) (.slice none 0 0))
        go_wp2
        refine bodyPost_ret (results_row4 rfl _ _ b 93 #[.string ⟨#[]⟩, .string ⟨#[]⟩, .string ⟨#[]⟩, .slice none 0 0] (0, 0) _ rfl HP.out.bk Tryz.underlying93 rfl (by kernel_rfl)) rfl ?_
        exact LRet.quiet (HF0.out (by first | trivial | rfl)) HP.out.below
      all_goals
        (go_enter Tryz.func68, Tryz.ntmps68
         go_upto_region 4 with (go_at_call 89; go_loud (refine HW.out.mono ?_; rintro e w2 ⟨hg1, _, hb2⟩; obtain ⟨v, rfl, ho⟩ := hg1 ws HN.out; rw [HNn.out] at ho; obtain ⟨ao, cap, rfl⟩ := own_slice ho; have HB2 := Lib.hid (HB1.out.kept hb2); obtain ⟨k0, k1, k2, k3⟩ := HB2.out.cell; have f0 := HB2.out.froz 0; have f1 := HB2.out.froz 1; have f2 := HB2.out.froz 2; have f3 := HB2.out.froz 3; have kE := (HB2.out.below.cell (p := ⟨0, 0, none⟩) (by rw [hb]; exact h0)).trans HEo.out; clear hg1 hb2 ho))
         have HP := Lib.hid ((HB2.out.put (.string ⟨#[]⟩) (.string ⟨#[]⟩) (.string ⟨#[]⟩) (.slice none 0 0)).kept ⟨rfl, rfl, rfl, Nat.le_refl _, fun _ _ => rfl⟩ : Lb w b (.string ⟨#[]⟩) (.string ⟨#[]⟩) (.string ⟨#[]⟩) (.slice none 0 0) ((((w2.setCell ⟨b, 0, none⟩ (.string ⟨#[]⟩)).setCell ⟨b, 1, none⟩ (.string ⟨#[]⟩)).setCell ⟨b, 2, none⟩ (.string ⟨#[]⟩)).setCell ⟨b, 3, none⟩ (.slice none 0 0)).drew)
         go_wp2
         go_region
         all_goals
           (go_wp2
            refine bodyPost_ret (results_row4 rfl _ _ b 93 #[.string ⟨#[]⟩, .string ⟨#[]⟩, .string ⟨#[]⟩, .slice none 0 0] (0, 0) _ rfl HP.out.bk Tryz.underlying93 rfl (by kernel_rfl)) rfl ?_
            exact LRet.err (HF12.out (by decide)) HP.out.below))
    · obtain ⟨c, sv, wd, rest, rfl⟩ : ∃ c sv wd rest, ws = c :: sv :: wd :: rest := by
        match ws, hfew with
        | [], h => exact absurd (by decide) h
        | [_], h => exact absurd (show 1 < 3 by decide) h
        | [_, _], h => exact absurd (show 2 < 3 by decide) h
        | c :: sv :: wd :: rest, _ => exact ⟨c, sv, wd, rest, rfl⟩
      have HBad := Lib.hid (fun h => lineS_bad HL.out hw h)
      have HGood := Lib.hid (fun h => lineS_good HL.out hw h)
      clear hw hfew
      obtain ⟨N, hN⟩ : ∃ N, (c :: sv :: wd :: rest).length = N := ⟨_, rfl⟩
      have hm : N = rest.length + 3 := by rw [← hN]; rfl
      have HM := Lib.hid hm
      have HWL := Lib.hid hN
      have n0 : (0 : Int) < (N : Int) := by omega
      have n1 : (1 : Int) < (N : Int) := by omega
      have n2 : (2 : Int) < (N : Int) := by omega
      have n3 : (3 : Int) ≤ (N : Int) := by omega
      have m1 : ((N : Int) == 1) = false := by simp; omega
      have m2 : ((N : Int) == 2) = false := by simp; omega
      have m3 : ((N : Int) == 0) = false := by simp; omega
      have hN0 : 0 < N := by omega
      clear hm hN
      go_enter Tryz.func68, Tryz.ntmps68
      go_upto_region 4 with (go_at_call 89; go_loud (refine HW.out.mono ?_; rintro e w2 ⟨hg1, _, hb2⟩; obtain ⟨v, rfl, ho⟩ := hg1 _ HN.out; rw [HWL.out, hsz1] at ho; obtain ⟨g, cap, rfl, hnc, hgb, hgl, hrow⟩ := own_row ho hN0; have HB2 := Lib.hid (HB1.out.kept hb2); have HRow := Lib.hid (fun (k : Nat) x (hx : (c :: sv :: wd :: rest)[k]? = some x) => hrow k _ (wordsV_get _ k x hx)); have HSz2 := Lib.hid hb2.size; clear hg1 hb2 ho hrow))
      rw [hsz1] at HSz2
      have HS2 : Hid (Ls w b g (c :: sv :: wd :: rest) (.string ⟨#[]⟩) (.string ⟨#[]⟩) (.string ⟨#[]⟩) w2.heap.size 0 (.slice none 0 0) rest w2) := Lib.hid ⟨HB2.out, HRow.out, World.ownsRow_nil _ _ _ _, hgl, by have := HSz2.out; omega, by omega, Nat.le_refl _⟩
      have HSd := Lib.hid (HS2.out.kept ⟨rfl, rfl, rfl, Nat.le_refl _, fun _ _ => rfl⟩ : Ls w b g (c :: sv :: wd :: rest) (.string ⟨#[]⟩) (.string ⟨#[]⟩) (.string ⟨#[]⟩) w2.heap.size 0 (.slice none 0 0) rest w2.drew)
      have HP := Lib.hid (HSd.out.put (strV c) (strV sv) (strV wd))
      generalize w2.heap.size = B at *
      have HALL : Hid (∀ w' (x0 x1 x2 : Value), Ls w b g (c :: sv :: wd :: rest) x0 x1 x2 B 0 (.slice none 0 0) rest w' → w'.cell? ⟨g, 0, none⟩ = some (.string ⟨c.toArray⟩) ∧ w'.cell? ⟨g, 1, none⟩ = some (.string ⟨sv.toArray⟩) ∧ w'.cell? ⟨g, 2, none⟩ = some (.string ⟨wd.toArray⟩) ∧ Hid (∃ x0 x1 x2, Ls w b g (c :: sv :: wd :: rest) x0 x1 x2 B 0 (.slice none 0 0) rest w')) :=
        Lib.hid fun w' x0 x1 x2 h => ⟨h.row 0 _ rfl, h.row 1 _ rfl, h.row 2 _ rfl, Lib.hid ⟨x0, x1, x2, h⟩⟩
      obtain ⟨k0, k1, k2, k3⟩ := HB2.out.cell
      have f0 := HB2.out.froz 0
      have f1 := HB2.out.froz 1
      have f2 := HB2.out.froz 2
      have f3 := HB2.out.froz 3
      go_wp2
      go_region_held3 (fun w' => w'.cell? ⟨g, 0, none⟩ = some (.string ⟨c.toArray⟩) ∧ w'.cell? ⟨g, 1, none⟩ = some (.string ⟨sv.toArray⟩) ∧ w'.cell? ⟨g, 2, none⟩ = some (.string ⟨wd.toArray⟩) ∧ Hid (∃ x0 x1 x2, Ls w b g (c :: sv :: wd :: rest) x0 x1 x2 B 0 (.slice none 0 0) rest w'))
        (first | exact HALL.out _ _ _ _ HSd.out | exact HALL.out _ _ _ _ HP.out | assumption | fail)
        (fail)
      have HS3 : Hid (Ls w b g (c :: sv :: wd :: rest) (.string ⟨c.toArray⟩) (.string ⟨sv.toArray⟩) (.string ⟨wd.toArray⟩) B 0 (.slice none 0 0) rest ((((w2.setCell ⟨b, 0, none⟩ (.string ⟨c.toArray⟩)).setCell ⟨b, 1, none⟩ (.string ⟨sv.toArray⟩)).setCell ⟨b, 2, none⟩ (.string ⟨wd.toArray⟩)).setCell ⟨b, 3, none⟩ (.slice none 0 0)).drew) := HP
      generalize ((((w2.setCell ⟨b, 0, none⟩ (.string ⟨c.toArray⟩)).setCell ⟨b, 1, none⟩ (.string ⟨sv.toArray⟩)).setCell ⟨b, 2, none⟩ (.string ⟨wd.toArray⟩)).setCell ⟨b, 3, none⟩ (.slice none 0 0)).drew = w3 at *
      clear HP HSd HS2 HALL k0 k1 k2 k3 f0 f1 f2 f3
      have hR : N - 3 = rest.length := by have := HM.out; omega
      have hRl : rest.length ≤ 1025 := by
        have := (wordsS_len _ _ _ _ HN.out).2
        have h2 := HL.out
        simp only [List.length_cons, List.length_nil] at this
        omega
      have HWd : Hid (∀ y ∈ rest, y.length ≤ 1024) := Lib.hid fun y hy => by
        rcases (wordsS_len _ _ _ _ HN.out).1 y (by simp [hy]) with h | h
        · cases h
        · have h2 := HL.out; omega
      have hcN : (N : Int) ≤ (cap : Int) := by omega
      have hc3 : (3 : Int) ≤ (cap : Int) := by omega
      generalize hRR : rest.length = R at *
      have HR0 := Lib.hid hRR
      clear hRR
      go_upto_region 10 with fail
      go_cut [53, 54, 55] (fun s53 s54 s55 wx => wx = w3 ∧ s54 = .int .i64 R ∧ s55 = .int .i64 0 ∧ ∃ (ad : Addr) (cc : Nat), s53 = .slice (some ad) R cc ∧ (0 < R → ad = ⟨g, 3, none⟩))
      case first =>
        by_cases hcap : cap = 3
        · have hN3 : N = 3 := by omega
          subst hcap
          subst hN3
          obtain rfl : R = 0 := by omega
          go_wp2
          go_meet
          exact ⟨rfl, rfl, rfl, _, _, rfl, fun h => absurd h (Nat.lt_irrefl 0)⟩
        · go_wp2
          go_meet
          exact ⟨rfl, by first | rfl | simp, rfl, _, _, rfl, fun _ => rfl⟩
      case rest =>
      obtain ⟨hwx, rfl, rfl, ad, cc, rfl, had⟩ := hcut
      subst hwx
      go_wp2
      go_loopg [7, 55] R (fun k s7 s55 wx => ∃ (j : Nat) (v : Value), j + k = R ∧ s55 = .int .i64 j ∧ s7 = .int .i64 (bads (rest.take j)) ∧ Hid (Ls w b g (c :: sv :: wd :: rest) (.string ⟨c.toArray⟩) (.string ⟨sv.toArray⟩) (.string ⟨wd.toArray⟩) B j v rest wx))
      case atStart => exact ⟨0, _, by omega, rfl, rfl, HS3⟩
      case round =>
        obtain ⟨j, v, hjk, rfl, rfl, HR⟩ := hrel
        obtain ⟨ao, capA, rfl⟩ := own_slice HR.out.own
        cases gk with
        | zero =>
          obtain rfl : j = R := by omega
          have hfull : rest.take j = rest := List.take_of_length_le (by rw [HR0.out]; exact Nat.le_refl _)
          have hown := HR.out.own
          rw [hfull] at hown
          obtain ⟨ao3, cap3, he3, hI, hO, hcz⟩ := ints_own_t hown (adrs_wf rest)
          simp only [Value.slice.injEq] at he3
          obtain ⟨rfl, _, rfl⟩ := he3
          rw [hfull]
          have HI := Lib.hid hI
          have HO := Lib.hid hO
          have HCZ := Lib.hid hcz
          clear hown hI hO hcz hfull
          obtain ⟨k0, k1, k2, k3⟩ := HR.out.lb.cell
          have HRi := Lib.hid (right_any ⟨c.toArray⟩ ⟨sv.toArray⟩ ⟨wd.toArray⟩ ao j capA (adrs rest) wr HI.out)
          have hwhy : whyP c sv wd rest = if bads rest ≠ 0 ∧ rightR ⟨c.toArray⟩ ⟨sv.toArray⟩ ⟨wd.toArray⟩ (adrs rest) ≠ 60 ∧ rightR ⟨c.toArray⟩ ⟨sv.toArray⟩ ⟨wd.toArray⟩ (adrs rest) ≠ 52 then bads rest else rightR ⟨c.toArray⟩ ⟨sv.toArray⟩ ⟨wd.toArray⟩ (adrs rest) := rfl
          generalize rightR ⟨c.toArray⟩ ⟨sv.toArray⟩ ⟨wd.toArray⟩ (adrs rest) = y at *
          generalize bads rest = q at *
          generalize whyP c sv wd rest = Y at *
          have HEnd : Hid (∀ w', Below wr.heap.size wr w' → w'.cell? ⟨b, 0, none⟩ = some (.string ⟨c.toArray⟩) ∧ w'.cell? ⟨b, 1, none⟩ = some (.string ⟨sv.toArray⟩) ∧ w'.cell? ⟨b, 2, none⟩ = some (.string ⟨wd.toArray⟩) ∧ w'.cell? ⟨b, 3, none⟩ = some (.slice ao j capA) ∧ w'.frozen? ⟨b, 0, none⟩ = false ∧ w'.frozen? ⟨b, 1, none⟩ = false ∧ w'.frozen? ⟨b, 2, none⟩ = false ∧ w'.frozen? ⟨b, 3, none⟩ = false ∧ w'.cell? ⟨0, 0, none⟩ = some (.iface t pv)) := Lib.hid fun w' hb' => by
            have h := HR.out.lb.kept hb'
            obtain ⟨a0, a1, a2, a3⟩ := h.cell
            exact ⟨a0, a1, a2, a3, h.froz 0, h.froz 1, h.froz 2, h.froz 3, (h.below.cell (p := ⟨0, 0, none⟩) (by rw [hb]; exact h0)).trans HEo.out⟩
          have HErr : Hid (∀ w', Below wr.heap.size wr w' → Y ≠ 0 → (((((w'.setCell ⟨b, 0, none⟩ (.string ⟨#[]⟩)).setCell ⟨b, 1, none⟩ (.string ⟨#[]⟩)).setCell ⟨b, 2, none⟩ (.string ⟨#[]⟩)).setCell ⟨b, 3, none⟩ (.slice none 0 0)).drew.heap[b]? = some (.cells #[.string ⟨#[]⟩, .string ⟨#[]⟩, .string ⟨#[]⟩, .slice none 0 0] 93 (0, 0)) ∧
              LRet s.data.toList (.iface t pv) w (.returned (.tuple #[zeroV, .bool false, .int .i64 Y, .iface t pv])) ((((w'.setCell ⟨b, 0, none⟩ (.string ⟨#[]⟩)).setCell ⟨b, 1, none⟩ (.string ⟨#[]⟩)).setCell ⟨b, 2, none⟩ (.string ⟨#[]⟩)).setCell ⟨b, 3, none⟩ (.slice none 0 0)).drew)) := Lib.hid fun w' hb' hY => by
            have h := (HR.out.lb.kept hb').put (.string ⟨#[]⟩) (.string ⟨#[]⟩) (.string ⟨#[]⟩) (.slice none 0 0)
            have h2 := h.kept (w' := ((((w'.setCell ⟨b, 0, none⟩ (.string ⟨#[]⟩)).setCell ⟨b, 1, none⟩ (.string ⟨#[]⟩)).setCell ⟨b, 2, none⟩ (.string ⟨#[]⟩)).setCell ⟨b, 3, none⟩ (.slice none 0 0)).drew) ⟨rfl, rfl, rfl, Nat.le_refl _, fun _ _ => rfl⟩
            exact ⟨h2.bk, LRet.err (HBad.out hY) h2.below⟩
          have HGo : Hid (∀ w', Below wr.heap.size wr w' → Y = 0 → ((((w'.setCell ⟨b, 0, none⟩ (.string ⟨c.toArray⟩)).setCell ⟨b, 1, none⟩ (.string ⟨sv.toArray⟩)).setCell ⟨b, 2, none⟩ (.string ⟨wd.toArray⟩)).setCell ⟨b, 3, none⟩ (.slice ao j capA)).heap[b]? = some (.cells #[.string ⟨c.toArray⟩, .string ⟨sv.toArray⟩, .string ⟨wd.toArray⟩, .slice ao j capA] 93 (0, 0)) ∧
              LRet s.data.toList (.iface t pv) w (.returned (.tuple #[.agg #[.string ⟨c.toArray⟩, .string ⟨sv.toArray⟩, .string ⟨wd.toArray⟩, .slice ao j capA], .bool true, .int .i64 0, .nilIface])) ((((w'.setCell ⟨b, 0, none⟩ (.string ⟨c.toArray⟩)).setCell ⟨b, 1, none⟩ (.string ⟨sv.toArray⟩)).setCell ⟨b, 2, none⟩ (.string ⟨wd.toArray⟩)).setCell ⟨b, 3, none⟩ (.slice ao j capA))) := Lib.hid fun w' hb' hY => by
            have h := (HR.out.lb.kept hb').put (.string ⟨c.toArray⟩) (.string ⟨sv.toArray⟩) (.string ⟨wd.toArray⟩) (.slice ao j capA)
            have hne : ∀ a, ao = some a → a.block ≠ b := fun a ha => by
              have h1 := (HO.out a ha).1
              have h2 := HR.out.bB
              omega
            have hw0 : w.heap.size ≤ B := by have := HR.out.bB; omega
            exact ⟨h.bk, LRet.good (HGood.out hY) HI.out.len (((((HI.out.kept hb').setCell hne _).setCell hne _).setCell hne _).setCell hne _) (((((((HO.out.kept hb').setCell hne _).setCell hne _).setCell hne _).setCell hne _)).mono hw0) HCZ.out h.below⟩
          by_cases hq : q = 0
          · subst hq
            obtain rfl : Y = y := by rw [hwhy]; simp
            clear hwhy
            cases hy : (Y == 0) with
            | true =>
              obtain rfl : Y = 0 := by simpa using hy
              go_wp2_with (go_at_call 78; refine HRi.out.mono ?_; rintro e w4 ⟨rfl, hb4⟩; obtain ⟨p0, p1, p2, p3, f0, f1, f2, f3, _⟩ := HEnd.out _ hb4; have HB4 := Lib.hid hb4; clear hb4)
              obtain ⟨z1, z2⟩ := HGo.out _ HB4.out (by first | trivial | rfl)
              refine bodyPost_ret (results_row4 rfl _ _ b 93 #[.string ⟨c.toArray⟩, .string ⟨sv.toArray⟩, .string ⟨wd.toArray⟩, .slice ao j capA] (0, 0) _ rfl z1 Tryz.underlying93 rfl (by kernel_rfl)) rfl ?_
              exact z2
            | false =>
              have hyn : (Y != 0) = true := by simp [bne, hy]
              have hY : Y ≠ 0 := by simpa using hy
              go_wp2_with (go_at_call 78; refine HRi.out.mono ?_; rintro e w4 ⟨rfl, hb4⟩; obtain ⟨p0, p1, p2, p3, f0, f1, f2, f3, p4⟩ := HEnd.out _ hb4; have HB4 := Lib.hid hb4; clear hb4)
              obtain ⟨z1, z2⟩ := HErr.out _ HB4.out hY
              go_region
              all_goals
                (go_wp2
                 refine bodyPost_ret (results_row4 rfl _ _ b 93 #[.string ⟨#[]⟩, .string ⟨#[]⟩, .string ⟨#[]⟩, .slice none 0 0] (0, 0) _ rfl z1 Tryz.underlying93 rfl (by kernel_rfl)) rfl ?_
                 exact z2)
          · have hqb : (q != 0) = true := by simpa using hq
            have hall : Y ≠ 0 := by
              rw [hwhy]
              split
              · exact hq
              · rename_i h
                intro h2
                exact h ⟨hq, by omega, by omega⟩
            have hYb : (Y != 0) = true := by simpa using hall
            by_cases hy1 : y = 60
            · have hy1b : (y != 60) = false := by simp [hy1]
              obtain rfl : Y = y := by rw [hwhy, if_neg (fun h => h.2.1 hy1)]
              clear hy1 hwhy
              go_wp2_with (go_at_call 78; go_loud (refine HRi.out.mono ?_; rintro e w4 ⟨rfl, hb4⟩; obtain ⟨p0, p1, p2, p3, f0, f1, f2, f3, p4⟩ := HEnd.out _ hb4; have HB4 := Lib.hid hb4; clear hb4))
              obtain ⟨z1, z2⟩ := HErr.out _ HB4.out hall
              go_region
              all_goals
                (go_wp2
                 refine bodyPost_ret (results_row4 rfl _ _ b 93 #[.string ⟨#[]⟩, .string ⟨#[]⟩, .string ⟨#[]⟩, .slice none 0 0] (0, 0) _ rfl z1 Tryz.underlying93 rfl (by kernel_rfl)) rfl ?_
                 exact z2)
            by_cases hy2 : y = 52
            · have hy2b : (y != 52) = false := by simp [hy2]
              have hy1b : (y != 60) = true := by simpa using hy1
              obtain rfl : Y = y := by rw [hwhy, if_neg (fun h => h.2.2 hy2)]
              clear hy2 hy1 hwhy
              go_wp2_with (go_at_call 78; refine HRi.out.mono ?_; rintro e w4 ⟨rfl, hb4⟩; obtain ⟨p0, p1, p2, p3, f0, f1, f2, f3, p4⟩ := HEnd.out _ hb4; have HB4 := Lib.hid hb4; clear hb4)
              obtain ⟨z1, z2⟩ := HErr.out _ HB4.out hall
              go_region
              all_goals
                (go_wp2
                 refine bodyPost_ret (results_row4 rfl _ _ b 93 #[.string ⟨#[]⟩, .string ⟨#[]⟩, .string ⟨#[]⟩, .slice none 0 0] (0, 0) _ rfl z1 Tryz.underlying93 rfl (by kernel_rfl)) rfl ?_
                 exact z2)
            · obtain rfl : Y = q := by rw [hwhy, if_pos ⟨hq, hy1, hy2⟩]
              have hy1b : (y != 60) = true := by simpa using hy1
              have hy2b : (y != 52) = true := by simpa using hy2
              clear hwhy
              go_wp2_with (go_at_call 78; refine HRi.out.mono ?_; rintro e w4 ⟨rfl, hb4⟩; obtain ⟨p0, p1, p2, p3, f0, f1, f2, f3, p4⟩ := HEnd.out _ hb4; have HB4 := Lib.hid hb4; clear hb4)
              obtain ⟨z1, z2⟩ := HErr.out _ HB4.out hall
              go_region
              all_goals
                (go_wp2
                 refine bodyPost_ret (results_row4 rfl _ _ b 93 #[.string ⟨#[]⟩, .string ⟨#[]⟩, .string ⟨#[]⟩, .slice none 0 0] (0, 0) _ rfl z1 Tryz.underlying93 rfl (by kernel_rfl)) rfl ?_
                 exact z2)
        | succ k =>
          have hj : (j : Int) < (R : Int) := by omega
          have hj0 : (0 : Int) ≤ (j : Int) := by omega
          obtain rfl := had (by omega)
          have hjl : j < rest.length := by rw [HR0.out]; omega
          obtain ⟨y, hy⟩ : ∃ y, rest[j]? = some y := ⟨_, List.getElem?_eq_getElem hjl⟩
          have q0 : wr.cell? ⟨g, 3 + j, none⟩ = some (.string ⟨y.toArray⟩) := HR.out.row (3 + j) y (by rw [Nat.add_comm]; simpa using hy)
          have HY := Lib.hid hy
          have HA := Lib.hid (addr_any ⟨y.toArray⟩ (by
            show y.toArray.size < _
            have := HWd.out y (List.mem_of_getElem? hy)
            simp; omega) wr (HCo.out.kept (hb ▸ HR.out.lb.below)))
          have HBs := Lib.hid (show bads (rest.take (j + 1)) = if bads (rest.take j) ≠ 0 then bads (rest.take j) else (addrR y).2 by
            rw [List.take_add_one, hy]
            simp only [Option.toList_some]
            exact bads_snoc _ _)
          obtain ⟨i2, hi2, hz0, hz1, hz2⟩ := info_parts info2
          clear hy hjl
          generalize bads (rest.take j) = q at *
          cases hq : (q == 0) with
          | true =>
            have hq2 : bads (rest.take (j + 1)) = (addrR y).2 := by
              rw [HBs.out]
              have : q = 0 := by simpa using hq
              simp [this]
            have HQ := Lib.hid hq2
            clear hq2
            go_wp2_with (first
              | (go_at_call 90; refine HA.out.mono ?_; rintro e w4 ⟨rfl, hb4⟩; have HR4 := Lib.hid (HR.out.kept hb4); have p3 := HR4.out.lb.cell.2.2.2; have HR5 := Lib.hid (HR4.out.kept ((Below.refl _ _).alloc (Nat.le_refl _) (.cells #[.int .i64 (addrR y).1] 2))); clear hb4)
              | (at_builtin; go_loud (refine wpList_append_own _ rfl _ _ 22 rfl B 2 i2 (.int .i64 0) 1 8 Tryz.underlying22 hi2 hz0 hz1 hz2 rfl (by decide) _ _ _ rfl HR5.out.own ⟨w4.heap.size, 0, none⟩ 1 1 [.int .i64 (addrR y).1] rfl rfl (cell_one_new _ _ _) (fun u hu => by simp at hu; subst hu; rfl) (by unfold maxLen; omega) (by omega) (by have := HR5.out.Bs; simp at this ⊢; omega) ?_; intro v' w5 hown' hgrow' hnil'; obtain ⟨ao2, cap2, rfl⟩ := own_slice hown'; obtain ⟨q1, q2⟩ := HR5.out.grown hgrow'; have HO := Lib.hid hown'; have HG := Lib.hid hgrow'; clear hown' hgrow' hnil')))
            obtain ⟨kb, hkb⟩ := own_block HO.out (Nat.succ_pos _)
            go_roundg k
            case measure => omega
            case rel => exact ⟨j + 1, _, by omega, by simp, by rw [HQ.out], Lib.hid (HR5.out.next HY.out HO.out HG.out hkb)⟩
          | false =>
            have hq2 : bads (rest.take (j + 1)) = q := by
              rw [HBs.out]
              have : ¬ q = 0 := by simpa using hq
              simp [this]
            have HQ := Lib.hid hq2
            clear hq2
            go_wp2_with (first
              | (go_at_call 90; refine HA.out.mono ?_; rintro e w4 ⟨rfl, hb4⟩; have HR4 := Lib.hid (HR.out.kept hb4); have p3 := HR4.out.lb.cell.2.2.2; have HR5 := Lib.hid (HR4.out.kept ((Below.refl _ _).alloc (Nat.le_refl _) (.cells #[.int .i64 (addrR y).1] 2))); clear hb4)
              | (at_builtin; go_loud (refine wpList_append_own _ rfl _ _ 22 rfl B 2 i2 (.int .i64 0) 1 8 Tryz.underlying22 hi2 hz0 hz1 hz2 rfl (by decide) _ _ _ rfl HR5.out.own ⟨w4.heap.size, 0, none⟩ 1 1 [.int .i64 (addrR y).1] rfl rfl (cell_one_new _ _ _) (fun u hu => by simp at hu; subst hu; rfl) (by unfold maxLen; omega) (by omega) (by have := HR5.out.Bs; simp at this ⊢; omega) ?_; intro v' w5 hown' hgrow' hnil'; obtain ⟨ao2, cap2, rfl⟩ := own_slice hown'; obtain ⟨q1, q2⟩ := HR5.out.grown hgrow'; have HO := Lib.hid hown'; have HG := Lib.hid hgrow'; clear hown' hgrow' hnil')))
            obtain ⟨kb, hkb⟩ := own_block HO.out (Nat.succ_pos _)
            go_roundg k
            case measure => omega
            case rel => exact ⟨j + 1, _, by omega, by simp, by rw [HQ.out], Lib.hid (HR5.out.next HY.out HO.out HG.out hkb)⟩
end Go.Proofs.Sr
