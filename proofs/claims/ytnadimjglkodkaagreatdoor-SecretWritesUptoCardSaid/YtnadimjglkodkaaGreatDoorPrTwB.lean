/- secrets: the program's words. -/
import Derived.Defers
import Derived.Scope
import Derived.FnLit
import Derived.Deep.RegionLaw
import Derived.Deep.AppendLies
import Derived.Deep.CutBlock
import Derived.Deep.DeepCutAuto
import Derived.Lib.IndexLaws
import Derived.RegionTactic
import Derived.Deep.Onto
import Derived.Test.YtnadimjglkodkaaGreatDoorPrTwJ
import Derived.Test.YtnadimjglkodkaaGreatDoorPrBox2
namespace Go.Proofs.Sr
open Go Go.RowKit Go.Pl Go.Proofs.Sa
def strV (l : List UInt8) : Value := .string ⟨l.toArray⟩
def wordsV (ws : List (List UInt8)) : List Value := ws.map strV
theorem strV_of {t : ByteArray} {l : List UInt8} (h : t.data.toList = l) : Value.string t = strV l := by
  subst h; rfl
theorem wordsS_blank {g : Nat} {ws : List (List UInt8)} {c : UInt8} {r : List UInt8} (h : blkS c = true) : wordsS (g + 1) ws (c :: r) = wordsS g ws r := by
  conv => lhs; unfold wordsS
  rw [if_pos h]
theorem wordsS_hash {g : Nat} {ws : List (List UInt8)} {c : UInt8} {r : List UInt8} (h : blkS c = false) (h2 : c.toNat = 35) : wordsS (g + 1) ws (c :: r) = some ws := by
  unfold wordsS
  rw [if_neg (by simp [h]), if_pos h2]
theorem wordsS_quo {g : Nat} {ws : List (List UInt8)} {c : UInt8} {r : List UInt8} (h : blkS c = false) (h2 : c.toNat = 34) {x y : List UInt8} (hq : quoS [] r = some (x, y)) : wordsS (g + 1) ws (c :: r) = wordsS g (ws ++ [x]) y := by
  conv => lhs; unfold wordsS
  rw [if_neg (by simp [h]), if_neg (by omega), if_pos h2, hq]
theorem wordsS_noquo {g : Nat} {ws : List (List UInt8)} {c : UInt8} {r : List UInt8} (h : blkS c = false) (h2 : c.toNat = 34) (hq : quoS [] r = none) : wordsS (g + 1) ws (c :: r) = none := by
  conv => lhs; unfold wordsS
  rw [if_neg (by simp [h]), if_neg (by omega), if_pos h2, hq]
theorem wordsS_bare {g : Nat} {ws : List (List UInt8)} {c : UInt8} {r : List UInt8} (h : blkS c = false) (h2 : c.toNat ≠ 35) (h3 : c.toNat ≠ 34) {n : Nat} (hn : bareS (c :: r) = some n) : wordsS (g + 1) ws (c :: r) = wordsS g (ws ++ [(c :: r).take n]) ((c :: r).drop n) := by
  conv => lhs; unfold wordsS
  rw [if_neg (by simp [h]), if_neg h2, if_neg h3, hn]
theorem wordsS_nobare {g : Nat} {ws : List (List UInt8)} {c : UInt8} {r : List UInt8} (h : blkS c = false) (h2 : c.toNat ≠ 35) (h3 : c.toNat ≠ 34) (hn : bareS (c :: r) = none) : wordsS (g + 1) ws (c :: r) = none := by
  conv => lhs; unfold wordsS
  rw [if_neg (by simp [h]), if_neg h2, if_neg h3, hn]
abbrev stopL : List UInt8 := [32, 9, 13, 35]
theorem stop_in : ∀ n, n < 256 → stopL.contains (UInt8.ofNat n) = stopS (UInt8.ofNat n) := by decide +kernel
theorem stop_inU (c : UInt8) : stopL.contains c = stopS c := by
  have h := stop_in c.toNat c.toNat_lt
  rwa [UInt8.ofNat_toNat] at h
/-- How long the word is that a reader finds. -/
def bareN (l : List UInt8) : Nat := if 0 ≤ Lib.indexAny l stopL then (Lib.indexAny l stopL).toNat else l.length
theorem indexAny_cons (c : UInt8) (r : List UInt8) : Lib.indexAny (c :: r) stopL = if stopS c then 0 else if Lib.indexAny r stopL = -1 then -1 else Lib.indexAny r stopL + 1 := by
  rw [Lib.indexAny, stop_inU]
  cases stopS c <;> simp
theorem indexB_cons (c d : UInt8) (r : List UInt8) : Lib.indexByte (c :: r) d = if c = d then 0 else if Lib.indexByte r d = -1 then -1 else Lib.indexByte r d + 1 := by
  rw [Lib.indexByte]
  by_cases h : c = d <;> simp [h]
theorem bareS_N : ∀ l : List UInt8, bareS l = if 0 ≤ Lib.indexByte (l.take (bareN l)) 34 then none else some (bareN l)
  | [] => rfl
  | c :: r => by
    have ih := bareS_N r
    have hg := Lib.indexAny_ge stopL r
    unfold bareS
    by_cases h1 : stopS c = true
    · have hn : bareN (c :: r) = 0 := by unfold bareN; rw [indexAny_cons, h1]; simp
      rw [if_pos h1, hn]; rfl
    have h1' : stopS c = false := by simpa using h1
    have hn : bareN (c :: r) = bareN r + 1 := by
      unfold bareN
      rw [indexAny_cons, h1']
      by_cases hr : Lib.indexAny r stopL = -1
      · simp [hr]
      · have h0 : 0 ≤ Lib.indexAny r stopL := by omega
        have h0' : 0 ≤ Lib.indexAny r stopL + 1 := by omega
        simp only [Bool.false_eq_true, if_false, hr, h0, h0', if_true]; omega
    rw [if_neg h1, hn, List.take_succ_cons, indexB_cons]
    by_cases h2 : c.toNat = 34
    · have hc : c = 34 := UInt8.toNat_inj.1 h2
      simp [hc]
    have hc : ¬ c = 34 := fun e => h2 (by rw [e]; rfl)
    rw [if_neg h2, if_neg hc, ih]
    have hg2 := Lib.indexByte_ge (r.take (bareN r)) 34
    by_cases h3 : Lib.indexByte (r.take (bareN r)) 34 = -1
    · simp [h3]
    · have h4 : 0 ≤ Lib.indexByte (r.take (bareN r)) 34 := by omega
      have h5 : 0 ≤ Lib.indexByte (r.take (bareN r)) 34 + 1 := by omega
      simp only [h4, if_true, h3, if_false, h5]; rfl
theorem bareN_le (l : List UInt8) : bareN l ≤ l.length := by
  unfold bareN
  split
  · rename_i h
    obtain ⟨o, ho⟩ := Int.eq_ofNat_of_zero_le h
    rw [ho]
    rcases Nat.lt_or_ge o l.length with h1 | h1
    · show o ≤ _; omega
    · exfalso
      have : ∀ (l : List UInt8) (o : Nat), Lib.indexAny l stopL = o → o < l.length := by
        intro l
        induction l with
        | nil => intro o h; simp [Lib.indexAny] at h
        | cons c r ih =>
          intro o h
          rw [indexAny_cons] at h
          split at h
          · simp; omega
          · split at h
            · omega
            · have hg := Lib.indexAny_ge stopL r
              have := ih (o - 1) (by omega)
              simp; omega
      have := this l o ho
      omega
  · exact Nat.le_refl _
theorem bareN_pos {c : UInt8} {r : List UInt8} (h : stopS c = false) : 1 ≤ bareN (c :: r) := by
  unfold bareN
  rw [indexAny_cons, h]
  have hg := Lib.indexAny_ge stopL r
  by_cases hr : Lib.indexAny r stopL = -1
  · simp [hr]
  · have h0' : 0 ≤ Lib.indexAny r stopL + 1 := by omega
    simp only [Bool.false_eq_true, if_false, hr, h0', if_true]; omega
/-! ### the deferred call -/
set_option maxRecDepth 100000 in
theorem clear_none (pl pe : Addr) (w : World) (he : w.cell? pe = some .nilIface) : CallsD Tryz.prog 112 #[.pointer (some pe), .pointer (some pl)] .returning w fun e u' w' => u' = .returning ∧ (e = .returned (.tuple #[]) ∧ w' = w) := by
  go_enter_d Tryz.func112, Tryz.ntmps112
  go_wp2
  go_end0
  exact ⟨rfl, rfl⟩
set_option maxRecDepth 100000 in
theorem clear_some (pl pe : Addr) (t : TypeId) (x u : Value) (w : World) (he : w.cell? pe = some (.iface t x)) (hl : w.cell? pl = some u) (hf : w.frozen? pl = false) :
    CallsD Tryz.prog 112 #[.pointer (some pe), .pointer (some pl)] .returning w fun e u' w' => u' = .returning ∧ (e = .returned (.tuple #[]) ∧ w' = w.setCell pl (.slice none 0 0)) := by
  go_enter_d Tryz.func112, Tryz.ntmps112
  go_wp2
  go_end0
  exact ⟨rfl, rfl⟩
/-- What holds ahead of a round. -/
structure Wst (w : World) (bl be : Nat) (ev : Value) (r : Option (List (List UInt8))) (l : List UInt8) (g i : Nat) (ws : List (List UInt8)) (v : Value) (wx : World) : Prop where
  cl : wx.cell? ⟨bl, 0, none⟩ = some v
  fl : wx.frozen? ⟨bl, 0, none⟩ = false
  ce : wx.cell? ⟨be, 0, none⟩ = some .nilIface
  fe : wx.frozen? ⟨be, 0, none⟩ = false
  cg : wx.cell? ⟨0, 0, none⟩ = some ev
  own : wx.ownsRow (be + 1) 9 1 v ws.length (wordsV ws)
  below : Below w.heap.size w wx
  eq : wordsS g ws (l.drop i) = r
  len : ws.length ≤ i
  b0 : 0 < w.heap.size
  b1 : w.heap.size ≤ bl
  b2 : bl < be
  b3 : be < wx.heap.size
theorem Wst.kept {w : World} {bl be : Nat} {ev : Value} {r : Option (List (List UInt8))} {l : List UInt8} {g i : Nat} {ws : List (List UInt8)} {v : Value} {wx w' : World} (h : Wst w bl be ev r l g i ws v wx) (hb : Below wx.heap.size wx w') : Wst w bl be ev r l g i ws v w' :=
  have hl : bl < wx.heap.size := Nat.lt_trans h.b2 h.b3
  have h0 : 0 < wx.heap.size := by have := h.b3; omega
  ⟨(hb.cell hl).trans h.cl, (World.frozen?_of_block (hb.block _ hl)).trans h.fl, (hb.cell h.b3).trans h.ce, (World.frozen?_of_block (hb.block _ h.b3)).trans h.fe, (hb.cell h0).trans h.cg, own_below h.own hb, below_step h.below hb, h.eq, h.len, h.b0, h.b1, h.b2, Nat.lt_of_lt_of_le h.b3 hb.size⟩
theorem Wst.far {w : World} {bl be : Nat} {ev : Value} {r : Option (List (List UInt8))} {l : List UInt8} {g i : Nat} {ws : List (List UInt8)} {v : Value} {wx : World} (h : Wst w bl be ev r l g i ws v wx) (k : Nat) (hk : k ≤ be) : some k ≠ v.ownBlock := fun e => by
  have := (h.own.lt k e.symm).1
  omega
theorem Wst.next {w : World} {bl be : Nat} {ev : Value} {r : Option (List (List UInt8))} {l x : List UInt8} {g g' i j k : Nat} {ws : List (List UInt8)} {v v' : Value} {wx w3 : World} (h : Wst w bl be ev r l g i ws v wx) (hj : i < j) (he : wordsS g ws (l.drop i) = wordsS g' (ws ++ [x]) (l.drop j))
    (hown : w3.ownsRow (be + 1) 9 1 v' (ws.length + 1) (wordsV ws ++ [strV x])) (hg : wx.grownBy w3 v.ownBlock) (hv : v'.ownBlock = some k) : Wst w bl be ev r l g' j (ws ++ [x]) v' (w3.setCell ⟨bl, 0, none⟩ v') := by
  have hl : bl < wx.heap.size := Nat.lt_trans h.b2 h.b3
  have h0 : 0 < wx.heap.size := by have := h.b3; omega
  have e1 : ∀ q, q ≤ be → w3.heap[q]? = wx.heap[q]? := fun q hq => hg.block q (by have := h.b3; omega) (h.far q hq)
  have e2 : ∀ q, q ≤ be → q ≠ bl → (w3.setCell ⟨bl, 0, none⟩ v').heap[q]? = wx.heap[q]? := fun q hq hne => (setCell_other hne v').trans (e1 q hq)
  have hc : w3.cell? ⟨bl, 0, none⟩ = some v := (World.cell?_of_block (e1 bl (Nat.le_of_lt h.b2))).trans h.cl
  have hf : w3.frozen? ⟨bl, 0, none⟩ = false := (World.frozen?_of_block (e1 bl (Nat.le_of_lt h.b2))).trans h.fl
  have hbe : be ≠ bl := by have := h.b2; omega
  have h0l : 0 ≠ bl := by have := h.b0; have := h.b1; omega
  have hk : be + 1 ≤ k := (hown.lt k hv).1
  refine ⟨cell_set hc v', froz_set hc hf v', (World.cell?_of_block (e2 be (Nat.le_refl _) hbe)).trans h.ce, (World.frozen?_of_block (e2 be (Nat.le_refl _) hbe)).trans h.fe, (World.cell?_of_block (e2 0 (Nat.zero_le _) h0l)).trans h.cg, ?_, ?_, he.symm.trans h.eq, by have := h.len; simp; omega, h.b0, h.b1, h.b2, by rw [setCell_size]; exact Nat.lt_of_lt_of_le h.b3 hg.size⟩
  · have := hown.kept (set_grown w3 bl 0 v') (.inr (by rw [hv]; intro e; cases e; have := h.b2; omega))
    have e : wordsV (ws ++ [x]) = wordsV ws ++ [strV x] := by simp [wordsV]
    rw [e, List.length_append]
    exact this
  · refine setCell_below (h.below.grown hg (Nat.le_trans h.b1 (Nat.le_of_lt hl)) fun q hq => ?_) h.b1 _
    have := (h.own.lt q hq).1
    have := h.b1; have := h.b2; omega
/-- What words answers. -/
def WRet (l : List UInt8) (ev : Value) (w : World) (e : Ending) (w' : World) : Prop :=
  (∀ ws, wordsS (l.length + 1) [] l = some ws → ∃ v, e = .returned (.tuple #[v, .nilIface]) ∧ w'.ownsRow w.heap.size 9 1 v ws.length (wordsV ws)) ∧ (wordsS (l.length + 1) [] l = none → e = .returned (.tuple #[.slice none 0 0, ev])) ∧ Below w.heap.size w w'
theorem info9 : (Tryz.prog.info? 9).map (fun i => (i.zero, i.size, i.bytes)) = some (some (.string ⟨#[]⟩), 1, 16) := by kernel_rfl
theorem WRet.good {l : List UInt8} {ev : Value} {w w' : World} {ws : List (List UInt8)} {v : Value} (h : wordsS (l.length + 1) [] l = some ws) (ho : w'.ownsRow w.heap.size 9 1 v ws.length (wordsV ws)) (hb : Below w.heap.size w w') : WRet l ev w (.returned (.tuple #[v, .nilIface])) w' :=
  ⟨fun ws' e => (by rw [h] at e; cases e; exact ⟨v, rfl, ho⟩), fun e => (by rw [h] at e; cases e), hb⟩
theorem WRet.bad {l : List UInt8} {ev : Value} {w w' : World} (h : wordsS (l.length + 1) [] l = none) (hb : Below w.heap.size w w') : WRet l ev w (.returned (.tuple #[.slice none 0 0, ev])) w' :=
  ⟨fun ws' e => (by rw [h] at e; cases e), fun _ => rfl, hb⟩
/-- The world behind both stores. -/
structure Wend (w : World) (bl be : Nat) (v u : Value) (n : Nat) (xs : List Value) (wx : World) : Prop where
  cl : wx.cell? ⟨bl, 0, none⟩ = some v
  fl : wx.frozen? ⟨bl, 0, none⟩ = false
  ce : wx.cell? ⟨be, 0, none⟩ = some u
  own : wx.ownsRow w.heap.size 9 1 v n xs
  below : Below w.heap.size w wx
  ne : be ≠ bl
  le : w.heap.size ≤ bl
theorem Wst.shut {w : World} {bl be : Nat} {ev : Value} {r : Option (List (List UInt8))} {l : List UInt8} {g i : Nat} {ws : List (List UInt8)} {v : Value} {wx : World} (h : Wst w bl be ev r l g i ws v wx) (u : Value) : Wend w bl be v u ws.length (wordsV ws) ((wx.setCell ⟨bl, 0, none⟩ v).setCell ⟨be, 0, none⟩ u) := by
  have hne : be ≠ bl := by have := h.b2; omega
  have e : ∀ q, q ≠ be → ((wx.setCell ⟨bl, 0, none⟩ v).setCell ⟨be, 0, none⟩ u).heap[q]? = (wx.setCell ⟨bl, 0, none⟩ v).heap[q]? := fun q hq => setCell_other hq u
  have hce : (wx.setCell ⟨bl, 0, none⟩ v).cell? ⟨be, 0, none⟩ = some .nilIface := (World.cell?_of_block (setCell_other hne v)).trans h.ce
  have hfar : ∀ q, q ≤ be → v.ownBlock ≠ some q := fun q hq e => h.far q hq e.symm
  refine ⟨(World.cell?_of_block (e bl (Ne.symm hne))).trans (cell_set h.cl v), (World.frozen?_of_block (e bl (Ne.symm hne))).trans (froz_set h.cl h.fl v), cell_set hce u, ?_, setCell_below (setCell_below h.below h.b1 v) (by have := h.b1; have := h.b2; omega) u, hne, h.b1⟩
  refine World.ownsRow.mono (base := be + 1) ?_ (by have := h.b1; have := h.b2; omega)
  exact (h.own.kept (set_grown wx bl 0 v) (.inr (hfar bl (Nat.le_of_lt h.b2)))).kept (set_grown _ be 0 u) (.inr (hfar be (Nat.le_refl _)))
theorem Wend.cleared {w : World} {bl be : Nat} {v u : Value} {n : Nat} {xs : List Value} {wx : World} (h : Wend w bl be v u n xs wx) : (wx.setCell ⟨bl, 0, none⟩ (.slice none 0 0)).cell? ⟨bl, 0, none⟩ = some (.slice none 0 0) ∧ (wx.setCell ⟨bl, 0, none⟩ (.slice none 0 0)).cell? ⟨be, 0, none⟩ = some u ∧ Below w.heap.size w (wx.setCell ⟨bl, 0, none⟩ (.slice none 0 0)) :=
  ⟨cell_set h.cl _, (World.cell?_of_block (setCell_other h.ne _)).trans h.ce, setCell_below h.below h.le _⟩
theorem door_good {l : List UInt8} {ev : Value} {w wx : World} {bl be : Nat} {ws : List (List UInt8)} {ao : Option Addr} {cap : Nat} {tmps : Array Value} (h2 : tmps.getD 2 undef = .pointer (some ⟨bl, 0, none⟩)) (h3 : tmps.getD 3 undef = .pointer (some ⟨be, 0, none⟩))
    (hE : Wend w bl be (.slice ao ws.length cap) .nilIface ws.length (wordsV ws) wx) (hF : wordsS (l.length + 1) [] l = some ws) :
    bodyPostD Tryz.prog Tryz.f89 (WRet l ev w) Exit.ret { tmps := tmps, defers := [{ target := Target.fn (Fn.func 112) #[.pointer (some ⟨be, 0, none⟩), .pointer (some ⟨bl, 0, none⟩)], args := #[] }] } wx := by
  refine leaves_cons (f := 112) (args := #[.pointer (some ⟨be, 0, none⟩), .pointer (some ⟨bl, 0, none⟩)]) (by simp) (by simp [go_sem]) ?_
  refine (clear_none ⟨bl, 0, none⟩ ⟨be, 0, none⟩ _ hE.ce).mono ?_
  rintro e u' w'' ⟨rfl, rfl, rfl⟩
  have k1 := hE.cl
  have k2 := hE.ce
  have h2' : tmps[2]?.getD undef = .pointer (some ⟨bl, 0, none⟩) := by simpa using h2
  have h3' : tmps[3]?.getD undef = .pointer (some ⟨be, 0, none⟩) := by simpa using h3
  simp [Leaves, settle, results, Tryz.results89, go_sem, h2', h3', k1, k2]
  exact WRet.good hF hE.own hE.below
theorem door_bad {l : List UInt8} {t : TypeId} {pv : Value} {w wx : World} {bl be : Nat} {v : Value} {n : Nat} {xs : List Value} {tmps : Array Value} (h2 : tmps.getD 2 undef = .pointer (some ⟨bl, 0, none⟩)) (h3 : tmps.getD 3 undef = .pointer (some ⟨be, 0, none⟩))
    (hE : Wend w bl be v (.iface t pv) n xs wx) (hF : wordsS (l.length + 1) [] l = none) :
    bodyPostD Tryz.prog Tryz.f89 (WRet l (.iface t pv) w) Exit.ret { tmps := tmps, defers := [{ target := Target.fn (Fn.func 112) #[.pointer (some ⟨be, 0, none⟩), .pointer (some ⟨bl, 0, none⟩)], args := #[] }] } wx := by
  refine leaves_cons (f := 112) (args := #[.pointer (some ⟨be, 0, none⟩), .pointer (some ⟨bl, 0, none⟩)]) (by simp) (by simp [go_sem]) ?_
  refine (clear_some ⟨bl, 0, none⟩ ⟨be, 0, none⟩ t pv v _ hE.ce hE.cl hE.fl).mono ?_
  rintro e u' w'' ⟨rfl, rfl, rfl⟩
  obtain ⟨k1, k2, k3⟩ := hE.cleared
  have h2' : tmps[2]?.getD undef = .pointer (some ⟨bl, 0, none⟩) := by simpa using h2
  have h3' : tmps[3]?.getD undef = .pointer (some ⟨be, 0, none⟩) := by simpa using h3
  simp only [Leaves, settle]
  generalize wx.setCell ⟨bl, 0, none⟩ (.slice none 0 0) = w3 at *
  simp [results, Tryz.results89, go_sem, h2', h3', k1, k2]
  exact WRet.bad hF k3
theorem Wst.grown {w : World} {bl be : Nat} {ev : Value} {r : Option (List (List UInt8))} {l : List UInt8} {g i : Nat} {ws : List (List UInt8)} {v : Value} {wx w3 : World} (h : Wst w bl be ev r l g i ws v wx) (hg : wx.grownBy w3 v.ownBlock) : w3.cell? ⟨bl, 0, none⟩ = some v ∧ w3.frozen? ⟨bl, 0, none⟩ = false := by
  have hl : bl < wx.heap.size := Nat.lt_trans h.b2 h.b3
  have e1 : w3.heap[bl]? = wx.heap[bl]? := hg.block bl hl (h.far bl (Nat.le_of_lt h.b2))
  exact ⟨(World.cell?_of_block e1).trans h.cl, (World.frozen?_of_block e1).trans h.fl⟩
theorem own_block {w : World} {base n : Nat} {e : TypeId} {k : Nat} {v : Value} {xs : List Value} (h : w.ownsRow base e k v n xs) (hn : 0 < n) : ∃ b, v.ownBlock = some b := by
  rcases h.2 with ⟨rfl, rfl⟩ | ⟨g, cap, cur, rfl, _⟩
  · omega
  · exact ⟨g, rfl⟩
theorem own_slice {w : World} {base n : Nat} {e : TypeId} {k : Nat} {v : Value} {xs : List Value} (h : w.ownsRow base e k v n xs) : ∃ ao cap, v = .slice ao n cap := by
  rcases h.2 with ⟨rfl, rfl⟩ | ⟨g, cap, cur, rfl, _⟩
  · exact ⟨_, _, rfl⟩
  · exact ⟨_, _, rfl⟩
set_option maxRecDepth 1000000 in
set_option maxHeartbeats 3200000 in
theorem words_any (s : ByteArray) (hs : s.size < 4294967281) (t : TypeId) (pv : Value) (w : World) (h0 : 0 < w.heap.size) (hE : w.cell? ⟨0, 0, none⟩ = some (.iface t pv)) : Calls Tryz.prog 89 #[.string s] w (WRet s.data.toList (.iface t pv) w) := by
  have hmf : ∀ (fn : Fn) (first cap : Array Value) (w : World), (Instr.makeFunc fn first cap).run Tryz.prog w = .ok (.func fn first cap) w := fun _ _ _ _ => rfl
  have HSZ := Lib.hid (Lib.size_eq s)
  obtain ⟨i0, hi0, hz0, hz1, hz2⟩ := info_parts info9
  have HS0 : Hid (Wst w w.heap.size (w.heap.size + 1) (.iface t pv) (wordsS (s.data.toList.length + 1) [] s.data.toList) s.data.toList (s.size + 1) 0 [] (.slice none 0 0) ((w.alloc (.cells #[.slice none 0 0] 106)).alloc (.cells #[.nilIface] 83))) := Lib.hid (by
    have a1 : (w.alloc (.cells #[.slice none 0 0] 106)).heap[w.heap.size]? = some (.cells #[.slice none 0 0] 106 (0, 0)) := heap_alloc_new w _
    have hsz : (w.alloc (.cells #[.slice none 0 0] 106)).heap.size = w.heap.size + 1 := by simp
    have b1 : Below w.heap.size w (w.alloc (.cells #[.slice none 0 0] 106)) := (Below.refl _ _).alloc (Nat.le_refl _) _
    have b2 : Below (w.heap.size + 1) (w.alloc (.cells #[.slice none 0 0] 106)) ((w.alloc (.cells #[.slice none 0 0] 106)).alloc (.cells #[.nilIface] 83)) := by
      have := (Below.refl (w.alloc (.cells #[.slice none 0 0] 106)).heap.size (w.alloc (.cells #[.slice none 0 0] 106))).alloc (Nat.le_refl _) (.cells #[.nilIface] 83)
      rwa [hsz] at this
    have a2 : ((w.alloc (.cells #[.slice none 0 0] 106)).alloc (.cells #[.nilIface] 83)).heap[w.heap.size]? = some (.cells #[.slice none 0 0] 106 (0, 0)) := (b2.block _ (Nat.lt_succ_self _)).trans a1
    have a3 : ((w.alloc (.cells #[.slice none 0 0] 106)).alloc (.cells #[.nilIface] 83)).heap[w.heap.size + 1]? = some (.cells #[.nilIface] 83 (0, 0)) := by
      have := heap_alloc_new (w.alloc (.cells #[.slice none 0 0] 106)) (.cells #[.nilIface] 83)
      rwa [hsz] at this
    have b3 : Below w.heap.size w ((w.alloc (.cells #[.slice none 0 0] 106)).alloc (.cells #[.nilIface] 83)) := b1.alloc (by rw [hsz]; omega) _
    refine ⟨by simp only [World.cell?, a2]; rfl, by simp only [World.frozen?, a2]; rfl, by simp only [World.cell?, a3]; rfl, by simp only [World.frozen?, a3]; rfl, (b3.cell h0).trans hE, World.ownsRow_nil _ _ _ _, b3, by rw [← HSZ.out]; rfl, Nat.le_refl _, h0, Nat.le_refl _, Nat.lt_succ_self _, by simp⟩)
  have hR : ∀ r, wordsS (s.data.toList.length + 1) [] s.data.toList = r → wordsS (s.data.toList.length + 1) [] s.data.toList = r := fun _ h => h
  have HR0 := Lib.hid hR
  clear hR
  generalize hr : wordsS (s.data.toList.length + 1) [] s.data.toList = r at HS0
  have HRr := Lib.hid hr
  clear hr HR0
  go_enter_defers Tryz.func89, Tryz.ntmps89
  go_wp2
  generalize hbe : w.heap.size + 1 = be at *
  generalize hbl : w.heap.size = bl at *
  generalize ((w.alloc (.cells #[.slice none 0 0] 106)).alloc (.cells #[.nilIface] 83)) = w1 at *
  have HBL := Lib.hid hbl
  clear hbe hbl
  go_loopg [4] (s.size + 1) (fun g s4 wx => ∃ (i : Nat) (ws : List (List UInt8)) (v : Value), s4 = .int .i64 i ∧ i ≤ s.size ∧ s.size < g + i ∧ Hid (Wst w bl be (.iface t pv) r s.data.toList g i ws v wx))
  case atStart => exact ⟨0, [], _, rfl, Nat.zero_le _, by omega, HS0⟩
  case round =>
    obtain ⟨i, ws, v, rfl, his, hg, HR⟩ := hrel
    obtain ⟨ao, cap, rfl⟩ := own_slice HR.out.own
    have k1 := HR.out.cl
    have k2 := HR.out.fl
    have k3 := HR.out.ce
    have k4 := HR.out.fe
    have k5 := HR.out.cg
    have n1 : ¬ be = bl := by have := HR.out.b2; omega
    have n2 : ¬ bl = be := by have := HR.out.b2; omega
    cases gk with
    | zero => omega
    | succ g =>
    by_cases hi : i < s.size
    case neg =>
      have c0 : ¬ (i : Int) < (s.size : Int) := by omega
      have HF := Lib.hid (show wordsS (s.data.toList.length + 1) [] s.data.toList = some ws by rw [HRr.out, ← HR.out.eq, drop_end s i (by omega)]; rfl)
      have HE := Lib.hid (HR.out.shut .nilIface)
      go_wp2
      exact door_good rfl rfl HE.out HF.out
    case pos =>
      have c0 : (i : Int) < (s.size : Int) := by omega
      have c8 : (0 : Int) ≤ (i : Int) := by omega
      have c9 : (i : Int) ≤ (s.size : Int) := by omega
      have HD := Lib.hid (drop_at s i hi)
      have HB := Lib.hid (fun w => blk_call s[i] w)
      by_cases hb : blkS s[i] = true
      · have HX : Hid (Wst w bl be (.iface t pv) r s.data.toList g (i + 1) ws (.slice ao ws.length cap) wr) := Lib.hid
          ⟨HR.out.cl, HR.out.fl, HR.out.ce, HR.out.fe, HR.out.cg, HR.out.own, HR.out.below, by rw [← HR.out.eq, HD.out, wordsS_blank hb], Nat.le_succ_of_le HR.out.len, HR.out.b0, HR.out.b1, HR.out.b2, HR.out.b3⟩
        go_wp2_with (go_at_call 113; refine (HB.out _).mono ?_; rintro e w5 ⟨k, rfl, hk, hw5⟩; have hw5 := hw5.symm; subst hw5; have hk0 : (0 : Int) ≤ k := by simpa [hb] using hk)
        go_roundg g
        case measure => omega
        case rel => exact ⟨i + 1, ws, _, by simp, by omega, by omega, HX⟩
      have hb : blkS s[i] = false := by simpa using hb
      by_cases h35 : (s[i]).toNat = 35
      · have c1 : (((s[i]).toNat : Int) == 35) = true := by simp; omega
        have HF := Lib.hid (show wordsS (s.data.toList.length + 1) [] s.data.toList = some ws by rw [HRr.out, ← HR.out.eq, HD.out, wordsS_hash hb h35])
        have HE := Lib.hid (HR.out.shut .nilIface)
        have HB5 : Hid (∀ w, Calls Tryz.prog 113 #[.string ⟨#[32, 9, 13]⟩, .int .u8 35] w fun e w' => ∃ k : Int, e = .returned (.int .i64 k) ∧ ¬ 0 ≤ k ∧ w' = w) := Lib.hid (fun w => by
          have := HB.out w
          rw [h35, hb] at this
          refine this.mono ?_
          rintro e w' ⟨k, rfl, hk, rfl⟩
          exact ⟨k, rfl, by simpa using hk, rfl⟩)
        go_wp2_with (go_at_call 113; refine (HB5.out _).mono ?_; rintro e w5 ⟨k, rfl, hk0, hw5⟩; have hw5 := hw5.symm; subst hw5)
        exact door_good rfl rfl HE.out HF.out
      have c1 : (((s[i]).toNat : Int) == 35) = false := by simp; omega
      have hxs : (s.extract i s.size).size = s.size - i := by rw [Lib.size_eq, extract_drop, List.length_drop, ← HSZ.out]
      have HXS := Lib.hid hxs
      have hwl : ws.length ≤ 4294967281 := by have := HR.out.len; omega
      clear hxs
      by_cases h34 : (s[i]).toNat = 34
      · have c2 : (((s[i]).toNat : Int) == 34) = true := by simp; omega
        have HB4 : Hid (∀ w, Calls Tryz.prog 113 #[.string ⟨#[32, 9, 13]⟩, .int .u8 34] w fun e w' => ∃ k : Int, e = .returned (.int .i64 k) ∧ ¬ 0 ≤ k ∧ w' = w) := Lib.hid (fun w => by
          have := HB.out w
          rw [h34, hb] at this
          refine this.mono ?_
          rintro e w' ⟨k, rfl, hk, rfl⟩
          exact ⟨k, rfl, by simpa using hk, rfl⟩)
        have HQ := Lib.hid (quoted_any (s.extract i s.size) (by rw [HXS.out]; omega) (by rw [HXS.out]; omega) wr)
        have HDD := Lib.hid (show ∀ j, (s.extract i s.size).data.toList.drop j = s.data.toList.drop (i + j) from fun j => by rw [extract_drop, List.drop_drop])
        cases hq : quoS [] (s.data.toList.drop (i + 1)) with
        | none =>
          have HF := Lib.hid (show wordsS (s.data.toList.length + 1) [] s.data.toList = none by rw [HRr.out, ← HR.out.eq, HD.out, wordsS_noquo hb h34 hq])
          have HN := Lib.hid hq
          clear hq
          go_wp2_with (first
            | (go_at_call 113; refine (HB4.out _).mono ?_; rintro e w5 ⟨k, rfl, hk0, hw5⟩; have hw5 := hw5.symm; subst hw5)
            | (go_at_call 114; refine HQ.out.mono ?_; rintro e w2 ⟨qa, qk, ok, rfl, hg1, hg2, hb2⟩; obtain rfl : ok = false := hg2 (by rw [HDD.out]; exact HN.out); have HR2 := Lib.hid (HR.out.kept hb2); have p1 := HR2.out.cl; have p2 := HR2.out.fl; have p3 := HR2.out.ce; have p4 := HR2.out.fe; have p5 := HR2.out.cg; have HE := Lib.hid ((HR2.out.kept ⟨rfl, rfl, rfl, Nat.le_refl _, fun _ _ => rfl⟩ : Wst w bl be (.iface t pv) r s.data.toList (g + 1) i ws (.slice ao ws.length cap) w2.drew).shut (.iface t pv)); clear hg1 hg2 hb2))
          go_region
          all_goals (go_wp2; exact door_bad rfl rfl HE.out HF.out)
        | some xy =>
          obtain ⟨x, y⟩ := xy
          have HE := Lib.hid (show wordsS (g + 1) ws (s.data.toList.drop i) = wordsS g (ws ++ [x]) y by rw [HD.out, wordsS_quo hb h34 hq])
          have HN := Lib.hid hq
          clear hq
          go_wp2_with (first
            | (go_at_call 113; refine (HB4.out _).mono ?_; rintro e w5 ⟨k, rfl, hk0, hw5⟩; have hw5 := hw5.symm; subst hw5)
            | (go_at_call 114; refine HQ.out.mono ?_; rintro e w2 ⟨qa, qk, ok, rfl, hg1, hg2, hb2⟩; obtain ⟨rfl, hqa, j, rfl, hy, hj1, hj2⟩ := hg1 x y (by rw [HDD.out]; exact HN.out); have HA := Lib.hid hqa; have HY := Lib.hid hy; rw [HXS.out] at hj2; have HR2 := Lib.hid (HR.out.kept hb2); have p1 := HR2.out.cl; have HR3 := Lib.hid (HR2.out.kept ((Below.refl _ _).alloc (Nat.le_refl _) (.cells #[.string qa] 9))); clear hg1 hg2 hb2 hqa hy)
            | (at_builtin; go_loud (refine wpList_append_own _ rfl _ _ 106 rfl (be + 1) 9 i0 (.string ⟨#[]⟩) 1 16 Tryz.underlying106 hi0 hz0 hz1 hz2 rfl (by decide) _ _ _ rfl HR3.out.own ⟨w2.heap.size, 0, none⟩ 1 1 [.string qa] rfl rfl (cell_one_new _ _ _) (fun u hu => by simp at hu; subst hu; rfl) (by unfold maxLen; omega) (by omega) (by have := HR3.out.b3; simp at this ⊢; omega) ?_; intro v' w3 hown' hgrow' hnil'; obtain ⟨ao2, cap2, rfl⟩ := own_slice hown'; obtain ⟨q1, q2⟩ := HR3.out.grown hgrow'; have HO := Lib.hid hown'; have HG := Lib.hid hgrow'; clear hown' hgrow' hnil')))
          obtain ⟨kb, hkb⟩ := own_block HO.out (Nat.succ_pos _)
          go_roundg g
          case measure => omega
          case rel => exact ⟨i + j, ws ++ [x], _, by simp, by omega, by omega, Lib.hid (HR3.out.next (by omega) (by rw [HE.out, HY.out, HDD.out]) (by rw [← strV_of HA.out]; exact HO.out) HG.out hkb)⟩
      have c2 : (((s[i]).toNat : Int) == 34) = false := by simp; omega
      have hst : stopS s[i] = false := by
        unfold stopS
        have : s[i] ≠ 35 := fun e => h35 (by rw [e]; rfl)
        simp [hb, this]
      have HBN := Lib.hid (bareS_N (s.data.toList.drop i))
      have hnp : 1 ≤ bareN (s.data.toList.drop i) := by rw [HD.out]; exact bareN_pos hst
      have hnl : bareN (s.data.toList.drop i) ≤ s.size - i := by
        have := bareN_le (s.data.toList.drop i)
        rwa [List.length_drop, ← HSZ.out] at this
      have hK : bareN (s.data.toList.drop i) = if 0 ≤ Lib.indexAny (s.data.toList.drop i) stopL then (Lib.indexAny (s.data.toList.drop i) stopL).toNat else s.size - i := by
        unfold bareN
        rw [List.length_drop, ← HSZ.out]
      have HI : Hid (Calls Tryz.prog 95 #[.string (s.extract i s.size), .string stopA] wr fun e w' => e = .returned (.int .i64 (Lib.indexAny (s.data.toList.drop i) stopL)) ∧ Below wr.heap.size wr w') := Lib.hid (by
        have := index_stop (s.extract i s.size) (by rw [HXS.out]; omega) wr
        rwa [extract_drop] at this)
      generalize Lib.indexAny (s.data.toList.drop i) stopL = K at *
      generalize bareN (s.data.toList.drop i) = n at *
      have c3 : (n : Int) ≤ ((s.extract i s.size).size : Int) := by rw [HXS.out]; omega
      have c4 : (0 : Int) ≤ (n : Int) := by omega
      by_cases h0K : 0 ≤ K
      · obtain rfl : K = (n : Int) := by rw [if_pos h0K] at hK; omega
        clear hK
        have HTL := Lib.hid (show ((s.extract i s.size).extract 0 n).data.toList = (s.data.toList.drop i).take n from by rw [Lib.extract_from_zero, extract_drop])
        have HTS := Lib.hid (show ((s.extract i s.size).extract 0 n).size = n from by rw [Lib.size_eq, Lib.extract_from_zero, extract_drop, List.length_take, List.length_drop, ← HSZ.out]; omega)
        have hts : (((s.extract i s.size).extract 0 n).size : Int) = (n : Int) := by rw [HTS.out]
        by_cases hq : 0 ≤ Lib.indexByte ((s.data.toList.drop i).take n) 34
        · have HF := Lib.hid (show wordsS (s.data.toList.length + 1) [] s.data.toList = none by rw [HRr.out, ← HR.out.eq, HD.out]; exact wordsS_nobare hb h35 h34 (by rw [← HD.out, HBN.out, if_pos hq]))
          have HC : Hid (∀ w, Calls Tryz.prog 115 #[.string ((s.extract i s.size).extract 0 n), .string ⟨#[34]⟩] w fun e w' => e = .returned (.bool true) ∧ w' = w) := Lib.hid (fun w => by
            have := Tryz.strings_Contains_one ((s.extract i s.size).extract 0 n) 34 w
            rwa [HTL.out, decide_eq_true hq] at this)
          clear hq
          go_wp2_with (first
            | (go_at_call 113; refine (HB.out _).mono ?_; rintro e w5 ⟨k, rfl, hk, hw5⟩; have hw5 := hw5.symm; subst hw5; have hk0 : ¬ (0 : Int) ≤ k := by simpa [hb] using hk)
            | (go_at_call 95; refine HI.out.mono ?_; rintro e w2 ⟨rfl, hb2⟩; have HR2 := Lib.hid (HR.out.kept hb2); have p1 := HR2.out.cl; have p2 := HR2.out.fl; have p3 := HR2.out.ce; have p4 := HR2.out.fe; have p5 := HR2.out.cg; have HE := Lib.hid ((HR2.out.kept ⟨rfl, rfl, rfl, Nat.le_refl _, fun _ _ => rfl⟩ : Wst w bl be (.iface t pv) r s.data.toList (g + 1) i ws (.slice ao ws.length cap) w2.drew).shut (.iface t pv)); clear hb2)
            | (go_at_call 115; refine (HC.out _).mono ?_; rintro e w6 ⟨rfl, hw6⟩; have hw6 := hw6.symm; subst hw6))
          go_region
          all_goals (go_wp2; exact door_bad rfl rfl HE.out HF.out)
        · have HE := Lib.hid (show wordsS (g + 1) ws (s.data.toList.drop i) = wordsS g (ws ++ [(s.data.toList.drop i).take n]) (s.data.toList.drop (i + n)) by
            have hbn : bareS (s[i] :: s.data.toList.drop (i + 1)) = some n := by rw [← HD.out, HBN.out, if_neg hq]
            rw [← List.drop_drop, HD.out, wordsS_bare hb h35 h34 hbn])
          have HC : Hid (∀ w, Calls Tryz.prog 115 #[.string ((s.extract i s.size).extract 0 n), .string ⟨#[34]⟩] w fun e w' => e = .returned (.bool false) ∧ w' = w) := Lib.hid (fun w => by
            have := Tryz.strings_Contains_one ((s.extract i s.size).extract 0 n) 34 w
            rwa [HTL.out, decide_eq_false hq] at this)
          clear hq
          go_wp2_with (first
            | (go_at_call 113; refine (HB.out _).mono ?_; rintro e w5 ⟨k, rfl, hk, hw5⟩; have hw5 := hw5.symm; subst hw5; have hk0 : ¬ (0 : Int) ≤ k := by simpa [hb] using hk)
            | (go_at_call 95; refine HI.out.mono ?_; rintro e w2 ⟨rfl, hb2⟩; have HR2 := Lib.hid (HR.out.kept hb2); have p1 := HR2.out.cl; have HR3 := Lib.hid (HR2.out.kept ((Below.refl _ _).alloc (Nat.le_refl _) (.cells #[.string ((s.extract i s.size).extract 0 n)] 9))); clear hb2)
            | (go_at_call 115; refine (HC.out _).mono ?_; rintro e w6 ⟨rfl, hw6⟩; have hw6 := hw6.symm; subst hw6)
            | (at_builtin; go_loud (refine wpList_append_own _ rfl _ _ 106 rfl (be + 1) 9 i0 (.string ⟨#[]⟩) 1 16 Tryz.underlying106 hi0 hz0 hz1 hz2 rfl (by decide) _ _ _ rfl HR3.out.own ⟨w2.heap.size, 0, none⟩ 1 1 [.string ((s.extract i s.size).extract 0 n)] rfl rfl (cell_one_new _ _ _) (fun u hu => by simp at hu; subst hu; rfl) (by unfold maxLen; omega) (by omega) (by have := HR3.out.b3; simp at this ⊢; omega) ?_; intro v' w3 hown' hgrow' hnil'; obtain ⟨ao2, cap2, rfl⟩ := own_slice hown'; obtain ⟨q1, q2⟩ := HR3.out.grown hgrow'; have HO := Lib.hid hown'; have HG := Lib.hid hgrow'; clear hown' hgrow' hnil')))
          obtain ⟨kb, hkb⟩ := own_block HO.out (Nat.succ_pos _)
          go_roundg g
          case measure => omega
          case rel => exact ⟨i + n, ws ++ [(s.data.toList.drop i).take n], _, by first | (simp [HTS.out]; done) | (simp only [Value.int.injEq, true_and]; omega) | (simp; omega), by omega, by omega, Lib.hid (HR3.out.next (by omega) HE.out (by rw [← strV_of HTL.out]; exact HO.out) HG.out hkb)⟩
      · have hn : n = s.size - i := by rw [if_neg h0K] at hK; exact hK
        clear hK
        have HTL := Lib.hid (show (s.extract i s.size).data.toList = (s.data.toList.drop i).take n from by rw [extract_drop, List.take_of_length_le (by rw [List.length_drop, ← HSZ.out]; omega)])
        have HTS := Lib.hid (show (s.extract i s.size).size = n from by rw [HXS.out]; omega)
        have hts : ((s.extract i s.size).size : Int) = (n : Int) := by rw [HTS.out]
        by_cases hq : 0 ≤ Lib.indexByte ((s.data.toList.drop i).take n) 34
        · have HF := Lib.hid (show wordsS (s.data.toList.length + 1) [] s.data.toList = none by rw [HRr.out, ← HR.out.eq, HD.out]; exact wordsS_nobare hb h35 h34 (by rw [← HD.out, HBN.out, if_pos hq]))
          have HC : Hid (∀ w, Calls Tryz.prog 115 #[.string (s.extract i s.size), .string ⟨#[34]⟩] w fun e w' => e = .returned (.bool true) ∧ w' = w) := Lib.hid (fun w => by
            have := Tryz.strings_Contains_one (s.extract i s.size) 34 w
            rwa [HTL.out, decide_eq_true hq] at this)
          clear hq
          go_wp2_with (first
            | (go_at_call 113; refine (HB.out _).mono ?_; rintro e w5 ⟨k, rfl, hk, hw5⟩; have hw5 := hw5.symm; subst hw5; have hk0 : ¬ (0 : Int) ≤ k := by simpa [hb] using hk)
            | (go_at_call 95; refine HI.out.mono ?_; rintro e w2 ⟨rfl, hb2⟩; have HR2 := Lib.hid (HR.out.kept hb2); have p1 := HR2.out.cl; have p2 := HR2.out.fl; have p3 := HR2.out.ce; have p4 := HR2.out.fe; have p5 := HR2.out.cg; have HE := Lib.hid ((HR2.out.kept ⟨rfl, rfl, rfl, Nat.le_refl _, fun _ _ => rfl⟩ : Wst w bl be (.iface t pv) r s.data.toList (g + 1) i ws (.slice ao ws.length cap) w2.drew).shut (.iface t pv)); clear hb2)
            | (go_at_call 115; refine (HC.out _).mono ?_; rintro e w6 ⟨rfl, hw6⟩; have hw6 := hw6.symm; subst hw6))
          go_region
          all_goals (go_wp2; exact door_bad rfl rfl HE.out HF.out)
        · have HE := Lib.hid (show wordsS (g + 1) ws (s.data.toList.drop i) = wordsS g (ws ++ [(s.data.toList.drop i).take n]) (s.data.toList.drop (i + n)) by
            have hbn : bareS (s[i] :: s.data.toList.drop (i + 1)) = some n := by rw [← HD.out, HBN.out, if_neg hq]
            rw [← List.drop_drop, HD.out, wordsS_bare hb h35 h34 hbn])
          have HC : Hid (∀ w, Calls Tryz.prog 115 #[.string (s.extract i s.size), .string ⟨#[34]⟩] w fun e w' => e = .returned (.bool false) ∧ w' = w) := Lib.hid (fun w => by
            have := Tryz.strings_Contains_one (s.extract i s.size) 34 w
            rwa [HTL.out, decide_eq_false hq] at this)
          clear hq
          go_wp2_with (first
            | (go_at_call 113; refine (HB.out _).mono ?_; rintro e w5 ⟨k, rfl, hk, hw5⟩; have hw5 := hw5.symm; subst hw5; have hk0 : ¬ (0 : Int) ≤ k := by simpa [hb] using hk)
            | (go_at_call 95; refine HI.out.mono ?_; rintro e w2 ⟨rfl, hb2⟩; have HR2 := Lib.hid (HR.out.kept hb2); have p1 := HR2.out.cl; have HR3 := Lib.hid (HR2.out.kept ((Below.refl _ _).alloc (Nat.le_refl _) (.cells #[.string (s.extract i s.size)] 9))); clear hb2)
            | (go_at_call 115; refine (HC.out _).mono ?_; rintro e w6 ⟨rfl, hw6⟩; have hw6 := hw6.symm; subst hw6)
            | (at_builtin; go_loud (refine wpList_append_own _ rfl _ _ 106 rfl (be + 1) 9 i0 (.string ⟨#[]⟩) 1 16 Tryz.underlying106 hi0 hz0 hz1 hz2 rfl (by decide) _ _ _ rfl HR3.out.own ⟨w2.heap.size, 0, none⟩ 1 1 [.string (s.extract i s.size)] rfl rfl (cell_one_new _ _ _) (fun u hu => by simp at hu; subst hu; rfl) (by unfold maxLen; omega) (by omega) (by have := HR3.out.b3; simp at this ⊢; omega) ?_; intro v' w3 hown' hgrow' hnil'; obtain ⟨ao2, cap2, rfl⟩ := own_slice hown'; obtain ⟨q1, q2⟩ := HR3.out.grown hgrow'; have HO := Lib.hid hown'; have HG := Lib.hid hgrow'; clear hown' hgrow' hnil')))
          obtain ⟨kb, hkb⟩ := own_block HO.out (Nat.succ_pos _)
          go_roundg g
          case measure => omega
          case rel => exact ⟨i + n, ws ++ [(s.data.toList.drop i).take n], _, by first | (simp [HTS.out]; done) | (simp only [Value.int.injEq, true_and]; omega) | (simp; omega), by omega, by omega, Lib.hid (HR3.out.next (by omega) HE.out (by rw [← strV_of HTL.out]; exact HO.out) HG.out hkb)⟩
end Go.Proofs.Sr
