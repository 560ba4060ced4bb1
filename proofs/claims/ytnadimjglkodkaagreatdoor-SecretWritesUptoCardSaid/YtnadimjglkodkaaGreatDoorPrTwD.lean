/- secrets: the program's read. -/
import Derived.Test.YtnadimjglkodkaaGreatDoorPrTwC
import Derived.Test.YtnadimjglkodkaaGreatDoorPrTzM
import Derived.Test.YtnadimjglkodkaaGreatDoorPrSbK
namespace Go.Proofs.Sr
open Go Go.RowKit Go.Pl Go.Proofs.Sa Go.Maps
/-- What a secret in memory says. -/
def said (y : Sec) : Said := (y.c.data.toList, y.sv.data.toList, y.wd.data.toList, y.zs)
/-- Secrets in a row of the call's own. -/
structure Frs (base : Nat) (v : Value) (l : List Sec) (wx : World) : Prop where
  own : wx.ownsRow base 93 4 v l.length (cellsL l)
  ints : ∀ y ∈ l, Ints wx y.ao y.n y.zs ∧ OwnI base wx y.ao ∧ (y.ao = none → y.cap = 0)
theorem Frs.kept {base : Nat} {v : Value} {l : List Sec} {wx w' : World} (h : Frs base v l wx) (hb : Below wx.heap.size wx w') : Frs base v l w' :=
  ⟨own_below h.own hb, fun y hy => ⟨(h.ints y hy).1.kept hb, (h.ints y hy).2.1.kept hb, (h.ints y hy).2.2⟩⟩
theorem Frs.mono {base base' : Nat} {v : Value} {l : List Sec} {wx : World} (h : Frs base v l wx) (hb : base' ≤ base) : Frs base' v l wx :=
  ⟨h.own.mono hb, fun y hy => ⟨(h.ints y hy).1, (h.ints y hy).2.1.mono hb, (h.ints y hy).2.2⟩⟩
theorem Frs.nil (base : Nat) (wx : World) : Frs base (.slice none 0 0) [] wx := ⟨World.ownsRow_nil _ _ _ _, fun y hy => by cases hy⟩
theorem Frs.next {base : Nat} {v v' : Value} {l : List Sec} {w4 w3 : World} {x : Said} {ao : Option Addr} {cap : Nat} {o : Obj} (h : Frs base v l w4) (hi : Ints w4 ao x.2.2.2.length x.2.2.2) (ho : OwnI base w4 ao) (hc : ao = none → cap = 0)
    (hown : w3.ownsRow base 93 4 v' (l.length + 1) (cellsL l ++ [strV x.1, strV x.2.1, strV x.2.2.1, .slice ao x.2.2.2.length cap])) (hg : (w4.alloc o).grownBy w3 v.ownBlock) : Frs base v' (l ++ [⟨str x.1, str x.2.1, str x.2.2.1, ao, x.2.2.2.length, cap, x.2.2.2⟩]) w3 := by
  have hal : Below w4.heap.size w4 (w4.alloc o) := (Below.refl _ _).alloc (Nat.le_refl _) _
  refine ⟨?_, fun y hy => ?_⟩
  · rw [List.length_append]
    have : cellsL (l ++ [⟨str x.1, str x.2.1, str x.2.2.1, ao, x.2.2.2.length, cap, x.2.2.2⟩]) = cellsL l ++ [strV x.1, strV x.2.1, strV x.2.2.1, .slice ao x.2.2.2.length cap] := by rw [cellsL_append]; rfl
    rw [this]
    exact hown
  · rcases List.mem_append.1 hy with hy | hy
    · obtain ⟨a1, a2, a3⟩ := h.ints y hy
      obtain ⟨b1, b2⟩ := own_grown (a1.kept hal) (a2.kept hal) (own_below h.own hal) hg
      exact ⟨b1, b2, a3⟩
    · obtain rfl := List.mem_singleton.1 hy
      obtain ⟨b1, b2⟩ := own_grown (hi.kept hal) (ho.kept hal) (own_below h.own hal) hg
      exact ⟨b1, b2, hc⟩
theorem said_snoc (l : List Sec) (x : Said) (ao : Option Addr) (n cap : Nat) : (l ++ [(⟨str x.1, str x.2.1, str x.2.2.1, ao, n, cap, x.2.2.2⟩ : Sec)]).map said = l.map said ++ [x] := by
  rw [List.map_append]; rfl
/-- Where the reading of a file stands. -/
structure Rs (w : World) (B : Nat) (T : Except (Int × Nat) (List Said)) (i : Nat) (rest : List (List UInt8)) (v : Value) (l : List Sec) (wx : World) : Prop where
  frs : Frs B v l wx
  le : w.heap.size ≤ B
  below : Below w.heap.size w wx
  eq : parseS i rest (l.map said) = T
  cnt : l.length ≤ i
theorem Rs.kept {w : World} {B : Nat} {T : Except (Int × Nat) (List Said)} {i : Nat} {rest : List (List UInt8)} {v : Value} {l : List Sec} {wx w' : World} (h : Rs w B T i rest v l wx) (hb : Below wx.heap.size wx w') : Rs w B T i rest v l w' :=
  ⟨h.frs.kept hb, h.le, below_step h.below hb, h.eq, h.cnt⟩
theorem Rs.skip {w : World} {B : Nat} {T : Except (Int × Nat) (List Said)} {i : Nat} {s : List UInt8} {rest : List (List UInt8)} {v : Value} {l : List Sec} {wx : World} (h : Rs w B T i (s :: rest) v l wx) (hs : lineS s = .ok none) : Rs w B T (i + 1) rest v l wx := by
  refine ⟨h.frs, h.le, h.below, ?_, Nat.le_succ_of_le h.cnt⟩
  rw [← h.eq]
  conv => rhs; unfold parseS
  rw [hs]
theorem Rs.next {w : World} {B : Nat} {T : Except (Int × Nat) (List Said)} {i : Nat} {s : List UInt8} {rest : List (List UInt8)} {v v' : Value} {l : List Sec} {w4 w3 : World} {x : Said} {ao : Option Addr} {cap : Nat} {o : Obj} (h : Rs w B T i (s :: rest) v l w4) (hs : lineS s = .ok (some x))
    (hi : Ints w4 ao x.2.2.2.length x.2.2.2) (ho : OwnI B w4 ao) (hc : ao = none → cap = 0)
    (hown : w3.ownsRow B 93 4 v' (l.length + 1) (cellsL l ++ [strV x.1, strV x.2.1, strV x.2.2.1, .slice ao x.2.2.2.length cap])) (hg : (w4.alloc o).grownBy w3 v.ownBlock) :
    Rs w B T (i + 1) rest v' (l ++ [⟨str x.1, str x.2.1, str x.2.2.1, ao, x.2.2.2.length, cap, x.2.2.2⟩]) w3 := by
  refine ⟨h.frs.next hi ho hc hown hg, h.le, ?_, ?_, ?_⟩
  · exact (h.below.alloc h.below.size o).grown hg (by have := h.below.size; simp; omega) (fun q hq => Nat.le_trans h.le (h.frs.own.lt q hq).1)
  · rw [said_snoc, ← h.eq]
    conv => rhs; unfold parseS
    rw [hs]
  · rw [List.length_append]; have := h.cnt; simp; omega
theorem Rs.fault {w : World} {B : Nat} {T : Except (Int × Nat) (List Said)} {i : Nat} {s : List UInt8} {rest : List (List UInt8)} {v : Value} {l : List Sec} {wx : World} {k : Int} (h : Rs w B T i (s :: rest) v l wx) (hs : lineS s = .error k) : T = .error (k, i) := by
  rw [← h.eq]
  unfold parseS
  rw [hs]
/-- What read answers. -/
def RdRet (l : List UInt8) (ev : Value) (w : World) (e : Ending) (w' : World) : Prop :=
  (∀ out, parseS 0 (cutAt 10 l) [] = .ok out → ∃ v l', e = .returned (.tuple #[v, .nilIface]) ∧ l'.map said = out ∧ Frs w.heap.size v l' w') ∧
  (∀ k i, parseS 0 (cutAt 10 l) [] = .error (k, i) → ∃ f, e = .returned (.tuple #[.slice none 0 0, .iface 86 (.pointer (some ⟨f, 0, none⟩))]) ∧ w.heap.size ≤ f ∧ w'.heap[f]? = some (.cells #[.int .i64 i, .int .i64 k, ev] 91 (0, 0))) ∧ Below w.heap.size w w'
theorem RdRet.good {l : List UInt8} {ev : Value} {w w' : World} {v : Value} {l' : List Sec} (h : parseS 0 (cutAt 10 l) [] = .ok (l'.map said)) (hf : Frs w.heap.size v l' w') (hb : Below w.heap.size w w') : RdRet l ev w (.returned (.tuple #[v, .nilIface])) w' :=
  ⟨fun out e => (by rw [h] at e; cases e; exact ⟨v, l', rfl, rfl, hf⟩), fun k i e => (by rw [h] at e; cases e), hb⟩
theorem RdRet.bad {l : List UInt8} {ev : Value} {w w' : World} {k : Int} {i f : Nat} (h : parseS 0 (cutAt 10 l) [] = .error (k, i)) (hf : w.heap.size ≤ f) (hh : w'.heap[f]? = some (.cells #[.int .i64 i, .int .i64 k, ev] 91 (0, 0))) (hb : Below w.heap.size w w') :
    RdRet l ev w (.returned (.tuple #[.slice none 0 0, .iface 86 (.pointer (some ⟨f, 0, none⟩))])) w' :=
  ⟨fun out e => (by rw [h] at e; cases e), fun k i e => (by rw [h] at e; cases e; exact ⟨f, rfl, hf, hh⟩), hb⟩
set_option maxRecDepth 1000000 in
set_option maxHeartbeats 3200000 in
theorem read_any (s : ByteArray) (hs : s.size < 4294967281) (t : TypeId) (pv : Value) (w : World) (hC : Consts w) (hE : w.cell? ⟨0, 0, none⟩ = some (.iface t pv)) : Calls Tryz.prog 46 #[.string s] w (RdRet s.data.toList (.iface t pv) w) := by
  obtain ⟨m, hm⟩ := hC.most
  have hcut := Lib.hid (splitB_one s 10 ⟨#[10]⟩ rfl)
  have hcnt := Lib.hid (splitB_count s 10 ⟨#[10]⟩ rfl)
  have HCo := Lib.hid hC
  have HEo := Lib.hid hE
  have h0 : 0 < w.heap.size := World.block_lt_of_cell? _ _ hE
  have HSZ := Lib.hid (Lib.size_eq s)
  clear hC hE
  have HS := Lib.hid (Tryz.strings_Split s ⟨#[10]⟩ m w hs hm (by decide))
  generalize hps : Lib.splitB ⟨#[10]⟩ 0 (Lib.countB s ⟨#[10]⟩) s = ps at *
  generalize hN : Lib.countB s ⟨#[10]⟩ = N at *
  clear hps hN hm
  have HAL := Lib.hid ((Below.refl w.heap.size w).alloc (Nat.le_refl _) (.cells (ps.map Value.string).toArray 9))
  have HCell : Hid (∀ (i : Nat) p, ps[i]? = some p → (w.alloc (.cells (ps.map Value.string).toArray 9)).cell? ⟨w.heap.size, i, none⟩ = some (.string p)) := Lib.hid fun i p hp => by simp [World.cell?, World.alloc, -World.alloc_eq, hp]
  have HRs : Hid (Rs w (w.heap.size + 1) (parseS 0 (cutAt 10 s.data.toList) []) 0 (cutAt 10 s.data.toList) (.slice none 0 0) [] (w.alloc (.cells (ps.map Value.string).toArray 9))) := Lib.hid ⟨Frs.nil _ _, Nat.le_succ _, HAL.out, rfl, Nat.le_refl _⟩
  have HB1 : Hid (Below (w.heap.size + 1) (w.alloc (.cells (ps.map Value.string).toArray 9)) (w.alloc (.cells (ps.map Value.string).toArray 9))) := Lib.hid (Below.refl _ _)
  have hpl : (cutAt 10 s.data.toList).length = N + 1 := by rw [← hcut.out, List.length_map]; exact hcnt.out
  have HPL := Lib.hid hpl
  have hNs : N ≤ s.size := by
    have := cutAt_count 10 s.data.toList
    rw [hpl, ← HSZ.out] at this
    omega
  have HS1 : Hid ((w.alloc (.cells (ps.map Value.string).toArray 9)).heap.size = w.heap.size + 1) := Lib.hid (by simp)
  clear hpl
  obtain ⟨T, hT⟩ : ∃ T, parseS 0 (cutAt 10 s.data.toList) [] = T := ⟨_, rfl⟩
  rw [hT] at HRs
  have HT := Lib.hid hT
  clear hT
  obtain ⟨j0, hj0, hy0, hy1, hy2⟩ := info_parts info93
  go_enter Tryz.func46, Tryz.ntmps46
  go_wp2_with (go_at_call 61; refine HS.out.mono ?_; rintro e w' ⟨rfl, rfl⟩)
  generalize hw1 : w.alloc (.cells (ps.map Value.string).toArray 9) = w1 at *
  generalize hb : w.heap.size = b at *
  have HW1 := Lib.hid hw1
  clear hw1
  go_loopg [4, 14] (N + 1) (fun g s4 s14 wx => ∃ (i : Nat) (l' : List Sec), i + g = N + 1 ∧ s14 = .int .i64 i ∧ Hid (Rs w (b + 1) T i ((cutAt 10 s.data.toList).drop i) s4 l' wx ∧ Below (b + 1) w1 wx))
  case atStart => exact ⟨0, [], by omega, rfl, Lib.hid ⟨HRs.out, HB1.out⟩⟩
  case round =>
    obtain ⟨i, l', hig, rfl, HR⟩ := hrel
    cases gk with
    | zero =>
      obtain rfl : i = N + 1 := by omega
      have HF := Lib.hid (show T = .ok (l'.map said) by
        rw [← HR.out.1.eq, List.drop_eq_nil_of_le (by rw [HPL.out]; exact Nat.le_refl _)]; rfl)
      have c0 : ¬ ((N + 1 : Nat) : Int) < (N : Int) + 1 := by omega
      go_wp2
      go_ret2
      exact RdRet.good (HT.out.trans HF.out) (HR.out.1.frs.mono HR.out.1.le) HR.out.1.below
    | succ g =>
      have hi : (i : Int) < (N : Int) + 1 := by omega
      have hil : i < ps.length := by have := hcnt.out; omega
      obtain ⟨p, hp⟩ : ∃ p, ps[i]? = some p := ⟨_, List.getElem?_eq_getElem hil⟩
      have hcell : wr.cell? ⟨b, i, none⟩ = some (.string p) := by
        rw [HR.out.2.cell (Nat.lt_succ_self _)]
        exact HCell.out i p hp
      have hmem : p.data.toList ∈ cutAt 10 s.data.toList := by rw [← hcut.out]; exact List.mem_map_of_mem (List.mem_of_getElem? hp)
      have hpl := cutAt_len 10 _ _ hmem
      rw [← Lib.size_eq, ← HSZ.out] at hpl
      have hdrop : (cutAt 10 s.data.toList).drop i = p.data.toList :: (cutAt 10 s.data.toList).drop (i + 1) := by
        have h1 : (cutAt 10 s.data.toList)[i]? = some p.data.toList := by rw [← hcut.out, List.getElem?_map, hp]; rfl
        obtain ⟨h2, h3⟩ := List.getElem?_eq_some_iff.1 h1
        rw [List.drop_eq_getElem_cons h2, h3]
      have HR1 := Lib.hid (hdrop ▸ HR.out.1 : Rs w (b + 1) T i (p.data.toList :: (cutAt 10 s.data.toList).drop (i + 1)) u4 l' wr)
      have HLn := Lib.hid (line_any p (by omega) t pv wr (HCo.out.kept (hb ▸ HR.out.1.below)) ((HR.out.1.below.cell (p := ⟨0, 0, none⟩) (by rw [hb]; exact h0)).trans HEo.out))
      have HB2 := Lib.hid HR.out.2
      have hwr : wrap64 ((i : Int) + 1) = (i : Int) + 1 := by unfold wrap64; omega
      have hbr : b + 1 ≤ wr.heap.size := by have := HR.out.2.size; rw [HS1.out] at this; exact this
      have HBR := Lib.hid hbr
      clear hbr
      clear hdrop hmem hp hil
      cases hl : lineS p.data.toList with
      | error k =>
        have HF := Lib.hid (HR1.out.fault hl)
        have HL := Lib.hid hl
        clear hl
        go_wp2_with (go_at_call 68; go_loud (refine HLn.out.mono ?_; rintro e w2 ⟨hg1, _, _, hb2⟩; obtain rfl := hg1 _ HL.out; have HR2 := Lib.hid (HR1.out.kept hb2); clear hg1 hb2))
        have HSh : Hid (((w2.alloc (.cells #[.string ⟨#[]⟩, .string ⟨#[]⟩, .string ⟨#[]⟩, .slice none 0 0] 93)).alloc (.cells #[.int .i64 i, .int .i64 k, .iface t pv] 91)).heap[w2.heap.size + 1]? = some (.cells #[.int .i64 i, .int .i64 k, .iface t pv] 91 (0, 0)) ∧
            Below w.heap.size w ((w2.alloc (.cells #[.string ⟨#[]⟩, .string ⟨#[]⟩, .string ⟨#[]⟩, .slice none 0 0] 93)).alloc (.cells #[.int .i64 i, .int .i64 k, .iface t pv] 91))) := Lib.hid (by
          have hsz : (w2.alloc (.cells #[.string ⟨#[]⟩, .string ⟨#[]⟩, .string ⟨#[]⟩, .slice none 0 0] 93)).heap.size = w2.heap.size + 1 := by simp
          have h1 := heap_alloc_new (w2.alloc (.cells #[.string ⟨#[]⟩, .string ⟨#[]⟩, .string ⟨#[]⟩, .slice none 0 0] 93)) (.cells #[.int .i64 i, .int .i64 k, .iface t pv] 91)
          rw [hsz] at h1
          refine ⟨h1, (HR2.out.below.alloc HR2.out.below.size _).alloc ?_ _⟩
          rw [hsz]
          exact Nat.le_succ_of_le HR2.out.below.size)
        go_ret2
        exact RdRet.bad (HT.out.trans HF.out) (by have := HR2.out.below.size; omega) HSh.out.1 HSh.out.2
      | ok o =>
        cases o with
        | none =>
          have HR3 := Lib.hid (HR1.out.skip hl)
          have HL := Lib.hid hl
          clear hl
          go_wp2_with (go_at_call 68; go_loud (refine HLn.out.mono ?_; rintro e w2 ⟨_, hg1, _, hb2⟩; obtain rfl := hg1 HL.out; have HB3 := Lib.hid (below_step hb2 ((Below.refl _ _).alloc (Nat.le_refl _) (.cells #[.string ⟨#[]⟩, .string ⟨#[]⟩, .string ⟨#[]⟩, .slice none 0 0] 93))); clear hg1 hb2))
          go_roundg g
          case measure => omega
          case rel => exact ⟨i + 1, l', by omega, by simp, Lib.hid ⟨HR3.out.kept HB3.out, HB2.out.trans (HB3.out.mono HBR.out)⟩⟩
        | some x =>
          have HL := Lib.hid hl
          have HNew : Hid (∀ (w2 : World) (ao : Option Addr) (cap : Nat), ∀ j u, [Value.string ⟨x.1.toArray⟩, .string ⟨x.2.1.toArray⟩, .string ⟨x.2.2.1.toArray⟩, .slice ao x.2.2.2.length cap][j]? = some u → ((w2.alloc (.cells #[.string ⟨x.1.toArray⟩, .string ⟨x.2.1.toArray⟩, .string ⟨x.2.2.1.toArray⟩, .slice ao x.2.2.2.length cap] 93)).alloc (.cells #[.string ⟨x.1.toArray⟩, .string ⟨x.2.1.toArray⟩, .string ⟨x.2.2.1.toArray⟩, .slice ao x.2.2.2.length cap] 93)).cell? ((⟨w2.heap.size + 1, 0, none⟩ : Addr).add j) = some u) := Lib.hid fun w2 ao cap j u hu => by
            have := cell_four_new (w2.alloc (.cells #[.string ⟨x.1.toArray⟩, .string ⟨x.2.1.toArray⟩, .string ⟨x.2.2.1.toArray⟩, .slice ao x.2.2.2.length cap] 93)) (.string ⟨x.1.toArray⟩) (.string ⟨x.2.1.toArray⟩) (.string ⟨x.2.2.1.toArray⟩) (.slice ao x.2.2.2.length cap) 93 j u hu
            have hsz : (w2.alloc (.cells #[.string ⟨x.1.toArray⟩, .string ⟨x.2.1.toArray⟩, .string ⟨x.2.2.1.toArray⟩, .slice ao x.2.2.2.length cap] 93)).heap.size = w2.heap.size + 1 := by simp
            rwa [hsz] at this
          have hll : l'.length ≤ 4294967281 := by have := HR.out.1.cnt; omega
          clear hl
          go_wp2_with (first
            | (go_at_call 68; go_loud (refine HLn.out.mono ?_; rintro e w2 ⟨_, _, hg1, hb2⟩; obtain ⟨ao, cap, rfl, hi2, ho2, hc2⟩ := hg1 _ HL.out; have HR2 := Lib.hid (HR1.out.kept hb2); have HI2 := Lib.hid hi2; have HO2 := Lib.hid (ho2.mono HBR.out); have HC2 := Lib.hid hc2; have HB2' := Lib.hid hb2; clear hg1 hi2 ho2 hc2 hb2; simp only [strV]))
            | (at_builtin; go_loud (refine wpList_append_own _ rfl _ _ 48 rfl (b + 1) 93 j0 (.agg #[.string ⟨#[]⟩, .string ⟨#[]⟩, .string ⟨#[]⟩, .slice none 0 0]) 4 72 Tryz.underlying48 hj0 hy0 hy1 hy2 rfl (by decide) _ l'.length _ rfl ((HR2.out.frs.own.alloc _).alloc _) ⟨w2.heap.size + 1, 0, none⟩ 1 1 [.string ⟨x.1.toArray⟩, .string ⟨x.2.1.toArray⟩, .string ⟨x.2.2.1.toArray⟩, .slice ao x.2.2.2.length cap] rfl rfl (HNew.out w2 ao cap) (fun u hu => by simp at hu; rcases hu with rfl | rfl | rfl | rfl <;> rfl) (by unfold maxLen; omega) (by omega) (by have := HBR.out; have := HB2'.out.size; simp; omega) ?_; intro v5 w5 hown5 hgrow5 hnil5; have HO5 := Lib.hid hown5; have HG5 := Lib.hid hgrow5; clear hown5 hgrow5 hnil5)))
          have hal : Below w2.heap.size w2 (w2.alloc (.cells #[.string ⟨x.1.toArray⟩, .string ⟨x.2.1.toArray⟩, .string ⟨x.2.2.1.toArray⟩, .slice ao x.2.2.2.length cap] 93)) := (Below.refl _ _).alloc (Nat.le_refl _) _
          have HR4 := Lib.hid ((HR2.out.kept hal).next HL.out (HI2.out.kept hal) (HO2.out.kept hal) HC2.out HO5.out HG5.out)
          have hsz : b + 1 ≤ w2.heap.size := Nat.le_trans HBR.out HB2'.out.size
          have HB5 : Hid (Below (b + 1) w1 w5) := Lib.hid ((((HB2.out.trans (HB2'.out.mono HBR.out)).alloc hsz _).alloc (by simp; omega) _).grown HG5.out (by simp; omega) (fun q hq => (HR2.out.frs.own.lt q hq).1))
          clear hal hsz
          go_roundg g
          case measure => omega
          case rel => exact ⟨i + 1, _, by omega, by simp, Lib.hid ⟨HR4.out, HB5.out⟩⟩
end Go.Proofs.Sr
