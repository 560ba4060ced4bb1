/- secrets: the document's line. -/
import Derived.Test.YtnadimjglkodkaaGreatDoorPrTwC
import Derived.Test.YtnadimjglkodkaaGreatDoorPrTwG
import Derived.Test.YtnadimjglkodkaaGreatDoorPrTzI
import Derived.Test.YtnadimjglkodkaaGreatDoorPrTzL
namespace Go.Proofs.Sr
open Go Go.RowKit Go.Pl Go.Proofs.Sa
theorem bads_app : ∀ (a b : List (List UInt8)), bads (a ++ b) = if bads a ≠ 0 then bads a else bads b
  | [], b => by simp [bads]
  | w :: a, b => by
    show (if (addrR w).2 ≠ 0 then (addrR w).2 else bads (a ++ b)) = _
    rw [bads_app a b]
    by_cases h : (addrR w).2 = 0
    · simp [h, bads]
    · simp [h, bads]
theorem bads_at {rest : List (List UInt8)} {j : Nat} {y : List UInt8} (h : bads (rest.take j) = 0) (hy : rest[j]? = some y) (hb : (addrR y).2 ≠ 0) : bads rest = (addrR y).2 := by
  obtain ⟨h1, h2⟩ := List.getElem?_eq_some_iff.1 hy
  have e : rest = rest.take j ++ y :: rest.drop (j + 1) := by
    rw [← h2, ← List.drop_eq_getElem_cons h1, List.take_append_drop]
  rw [e, bads_app, if_neg (by simp [h])]
  show (if (addrR y).2 ≠ 0 then (addrR y).2 else bads _) = _
  rw [if_pos hb]
/-- What the document's line answers. -/
def KRet (l : List UInt8) (w : World) (e : Ending) (w' : World) : Prop :=
  (∀ k, lineS l = .error k → e = .returned (.tuple #[zeroV, .bool false, .int .i64 k])) ∧
  (lineS l = .ok none → e = .returned (.tuple #[zeroV, .bool false, .int .i64 0])) ∧
  (∀ x : Said, lineS l = .ok (some x) → ∃ ao cap, e = .returned (.tuple #[.agg #[strV x.1, strV x.2.1, strV x.2.2.1, .slice ao x.2.2.2.length cap], .bool true, .int .i64 0]) ∧ Ints w' ao x.2.2.2.length x.2.2.2 ∧ OwnI w.heap.size w' ao ∧ (ao = none → cap = 0)) ∧ Below w.heap.size w w'
theorem KRet.err {l : List UInt8} {w w' : World} {k : Int} (h : lineS l = .error k) (hb : Below w.heap.size w w') : KRet l w (.returned (.tuple #[zeroV, .bool false, .int .i64 k])) w' :=
  ⟨fun k' e => (by rw [h] at e; cases e; rfl), fun e => (by rw [h] at e; cases e), fun x e => (by rw [h] at e; cases e), hb⟩
theorem KRet.quiet {l : List UInt8} {w w' : World} (h : lineS l = .ok none) (hb : Below w.heap.size w w') : KRet l w (.returned (.tuple #[zeroV, .bool false, .int .i64 0])) w' :=
  ⟨fun k' e => (by rw [h] at e; cases e), fun _ => rfl, fun x e => (by rw [h] at e; cases e), hb⟩
theorem KRet.good {l : List UInt8} {w w' : World} {c sv wd : List UInt8} {zs : List Int} {ao : Option Addr} {n cap : Nat} (h : lineS l = .ok (some (c, sv, wd, zs))) (hn : zs.length = n) (hi : Ints w' ao n zs) (ho : OwnI w.heap.size w' ao) (hc : ao = none → cap = 0) (hb : Below w.heap.size w w') :
    KRet l w (.returned (.tuple #[.agg #[strV c, strV sv, strV wd, .slice ao n cap], .bool true, .int .i64 0])) w' :=
  ⟨fun k' e => (by rw [h] at e; cases e), fun e => (by rw [h] at e; cases e), fun x e => (by rw [h] at e; cases e; subst hn; exact ⟨ao, cap, rfl, hi, ho, hc⟩), hb⟩
theorem Ls.keepz {w : World} {b g : Nat} {W : List (List UInt8)} {x0 x1 x2 : Value} {B j : Nat} {v v' : Value} {rest : List (List UInt8)} {wx w3 : World} (h : Ls w b g W x0 x1 x2 B j v rest wx) {q : Nat} {o : Obj} (hz : wx.heap[q]? = some o) (hq : q < B) (hne : q ≠ b) (hg : wx.grownBy w3 v.ownBlock) : (w3.setCell ⟨b, 3, none⟩ v').heap[q]? = some o :=
  (setCell_other hne v').trans ((hg.block q (Nat.lt_of_lt_of_le hq h.Bs) (h.far q hq)).trans hz)
theorem own_caps {w : World} {base n cap : Nat} {e : TypeId} {k : Nat} {ao : Option Addr} {xs : List Value} (h : w.ownsRow base e k (.slice ao n cap) n xs) : n ≤ cap ∧ cap ≤ 9223372036854775807 := by
  rcases h.2 with ⟨he, rfl⟩ | ⟨g, c2, cur, he, _, _, h1, h2, _⟩
  · simp only [Value.slice.injEq] at he
    obtain ⟨_, _, rfl⟩ := he
    exact ⟨Nat.le_refl _, by decide⟩
  · simp only [Value.slice.injEq] at he
    obtain ⟨_, _, rfl⟩ := he
    exact ⟨h1, by unfold maxLen at h2; omega⟩
set_option maxRecDepth 1000000 in
set_option maxHeartbeats 6400000 in
theorem rline_any (s : ByteArray) (hs : s.size < 4294967281) (w : World) (hC : Consts w) : Calls Tryz.prog 49 #[.string s] w (KRet s.data.toList w) := by
  have HSZ := Lib.hid (Lib.size_eq s)
  by_cases hL : 1024 < s.size
  · have c0 : (1024 : Int) < (s.size : Int) := by omega
    have HF := Lib.hid (lineS_long (s := s.data.toList) (by rw [← HSZ.out]; exact hL))
    have HB := Lib.hid (Lb.new w (.string ⟨#[]⟩) (.string ⟨#[]⟩) (.string ⟨#[]⟩) (.slice none 0 0))
    go_enter Tryz.func49, Tryz.ntmps49
    go_wp2
    refine bodyPost_ret (results_row3 rfl _ _ w.heap.size 93 #[.string ⟨#[]⟩, .string ⟨#[]⟩, .string ⟨#[]⟩, .slice none 0 0] (0, 0) _ rfl HB.out.bk Tryz.underlying93 rfl (by kernel_rfl)) rfl ?_
    exact KRet.err HF.out HB.out.below
  have c0 : ¬ (1024 : Int) < (s.size : Int) := by omega
  have HL := Lib.hid (show ¬ 1024 < s.data.toList.length by rw [← HSZ.out]; exact hL)
  have HB1 := Lib.hid (Lb.new w (.string ⟨#[]⟩) (.string ⟨#[]⟩) (.string ⟨#[]⟩) (.slice none 0 0))
  have HW := Lib.hid (rwords_any s hs (w.alloc (.cells #[.string ⟨#[]⟩, .string ⟨#[]⟩, .string ⟨#[]⟩, .slice none 0 0] 93)))
  have HCo := Lib.hid hC
  clear hC
  generalize hb : w.heap.size = b at *
  cases hw : wordsS (s.data.toList.length + 1) [] s.data.toList with
  | none =>
    have HF := Lib.hid (lineS_none HL.out hw)
    have HN := Lib.hid hw
    clear hw
    go_enter Tryz.func49, Tryz.ntmps49
    go_upto_region 4 with (go_at_call 75; go_loud (refine HW.out.mono ?_; rintro e w2 ⟨_, hg2, hb2⟩; obtain rfl := hg2 HN.out; have HB2 := Lib.hid (HB1.out.kept hb2); obtain ⟨k0, k1, k2, k3⟩ := HB2.out.cell; have f0 := HB2.out.froz 0; have f1 := HB2.out.froz 1; have f2 := HB2.out.froz 2; have f3 := HB2.out.froz 3; clear hg2 hb2))
    have HP := Lib.hid (HB2.out.put (.string ⟨#[]⟩) (.string ⟨#[]⟩) (.string ⟨#[]⟩) (.slice none 0 0))
    go_wp2
    refine bodyPost_ret (results_row3 rfl _ _ b 93 #[.string ⟨#[]⟩, .string ⟨#[]⟩, .string ⟨#[]⟩, .slice none 0 0] (0, 0) _ rfl HP.out.bk Tryz.underlying93 rfl (by kernel_rfl)) rfl ?_
    exact KRet.err HF.out HP.out.below
  | some ws =>
    have HN := Lib.hid hw
    have hsz1 : (w.alloc (.cells #[.string ⟨#[]⟩, .string ⟨#[]⟩, .string ⟨#[]⟩, .slice none 0 0] 93)).heap.size = b + 1 := by simp [hb]
    by_cases hfew : ws.length < 3
    · generalize hn : ws.length = n at *
      have HF0 := Lib.hid (show n = 0 → lineS s.data.toList = .ok none from fun h => lineS_zero HL.out (by rw [hw, List.length_eq_zero_iff.1 (hn.trans h)]))
      have HF12 := Lib.hid (show n = 1 ∨ n = 2 → lineS s.data.toList = .error 50 from fun h => lineS_few HL.out hw (by rw [hn]; exact h))
      have HNn := Lib.hid hn
      clear hw hn
      rcases (show n = 0 ∨ n = 1 ∨ n = 2 by omega) with rfl | rfl | rfl
      all_goals
        (go_enter Tryz.func49, Tryz.ntmps49
         go_upto_region 4 with (go_at_call 75; go_loud (refine HW.out.mono ?_; rintro e w2 ⟨hg1, _, hb2⟩; obtain ⟨v, rfl, ho⟩ := hg1 ws HN.out; rw [HNn.out] at ho; obtain ⟨ao, cap, rfl⟩ := own_slice ho; have HB2 := Lib.hid (HB1.out.kept hb2); obtain ⟨k0, k1, k2, k3⟩ := HB2.out.cell; have f0 := HB2.out.froz 0; have f1 := HB2.out.froz 1; have f2 := HB2.out.froz 2; have f3 := HB2.out.froz 3; clear hg1 hb2 ho))
         have HP := Lib.hid (HB2.out.put (.string ⟨#[]⟩) (.string ⟨#[]⟩) (.string ⟨#[]⟩) (.slice none 0 0))
         go_wp2
         refine bodyPost_ret (results_row3 rfl _ _ b 93 #[.string ⟨#[]⟩, .string ⟨#[]⟩, .string ⟨#[]⟩, .slice none 0 0] (0, 0) _ rfl HP.out.bk Tryz.underlying93 rfl (by kernel_rfl)) rfl ?_
         first
           | exact KRet.quiet (HF0.out (by first | trivial | rfl)) HP.out.below
           | exact KRet.err (HF12.out (by decide)) HP.out.below)
    · obtain ⟨c, sv, wd, rest, rfl⟩ : ∃ c sv wd rest, ws = c :: sv :: wd :: rest := by
        match ws, hfew with
        | [], h => exact absurd (by decide) h
        | [_], h => exact absurd (show 1 < 3 by decide) h
        | [_, _], h => exact absurd (show 2 < 3 by decide) h
        | c :: sv :: wd :: rest, _ => exact ⟨c, sv, wd, rest, rfl⟩
      have HBad := Lib.hid (fun (h : whyR c sv wd rest ≠ 0) => (why_eq c sv wd rest ▸ lineS_bad HL.out hw (by rw [why_eq]; exact h) : lineS s.data.toList = .error (whyR c sv wd rest)))
      have HGood := Lib.hid (fun (h : whyR c sv wd rest = 0) => lineS_good HL.out hw (by rw [why_eq]; exact h))
      clear hw hfew
      obtain ⟨N, hN⟩ : ∃ N, (c :: sv :: wd :: rest).length = N := ⟨_, rfl⟩
      have hm : N = rest.length + 3 := by rw [← hN]; rfl
      have HM := Lib.hid hm
      have HWL := Lib.hid hN
      have n0 : (0 : Int) < (N : Int) := by omega
      have n1 : (1 : Int) < (N : Int) := by omega
      have n2 : (2 : Int) < (N : Int) := by omega
      have n3 : (3 : Int) ≤ (N : Int) := by omega
      have m1 : ((N : Int) == 1) = false := by simp; omega
      have m2 : ((N : Int) == 2) = false := by simp; omega
      have m3 : ((N : Int) == 0) = false := by simp; omega
      have hN0 : 0 < N := by omega
      clear hm hN
      go_enter Tryz.func49, Tryz.ntmps49
      go_upto_region 4 with (go_at_call 75; go_loud (refine HW.out.mono ?_; rintro e w2 ⟨hg1, _, hb2⟩; obtain ⟨v, rfl, ho⟩ := hg1 _ HN.out; rw [HWL.out, hsz1] at ho; obtain ⟨g, cap, rfl, hnc, hgb, hgl, hrow⟩ := own_row ho hN0; have HB2 := Lib.hid (HB1.out.kept hb2); have HRow := Lib.hid (fun (k : Nat) x (hx : (c :: sv :: wd :: rest)[k]? = some x) => hrow k _ (wordsV_get _ k x hx)); have HSz2 := Lib.hid hb2.size; clear hg1 hb2 ho hrow))
      rw [hsz1] at HSz2
      have HALL : Hid (∀ w', Below w2.heap.size w2 w' → w'.cell? ⟨g, 0, none⟩ = some (.string ⟨c.toArray⟩) ∧ w'.cell? ⟨g, 1, none⟩ = some (.string ⟨sv.toArray⟩) ∧ w'.cell? ⟨g, 2, none⟩ = some (.string ⟨wd.toArray⟩) ∧ Hid (Below w2.heap.size w2 w')) :=
        Lib.hid fun w' h => ⟨(h.cell hgl).trans (HRow.out 0 _ rfl), (h.cell hgl).trans (HRow.out 1 _ rfl), (h.cell hgl).trans (HRow.out 2 _ rfl), Lib.hid h⟩
      have HBd : Hid (Below w2.heap.size w2 w2.drew) := Lib.hid ⟨rfl, rfl, rfl, Nat.le_refl _, fun _ _ => rfl⟩
      have HBa : Hid (∀ o, Below w2.heap.size w2 (w2.drew.alloc o)) := Lib.hid fun o => HBd.out.alloc (Nat.le_refl _) o
      go_wp2
      go_region_held3 (fun w' => w'.cell? ⟨g, 0, none⟩ = some (.string ⟨c.toArray⟩) ∧ w'.cell? ⟨g, 1, none⟩ = some (.string ⟨sv.toArray⟩) ∧ w'.cell? ⟨g, 2, none⟩ = some (.string ⟨wd.toArray⟩) ∧ Hid (Below w2.heap.size w2 w'))
        (first | exact HALL.out _ HBd.out | exact HALL.out _ (HBa.out _) | assumption | fail)
        (fail)
      have HLs : Hid (Ls w w2.heap.size g (c :: sv :: wd :: rest) (.string ⟨c.toArray⟩) (.string ⟨sv.toArray⟩) (.string ⟨wd.toArray⟩) (w2.heap.size + 1) 0 (.slice none 0 0) rest (w2.alloc (.cells #[.string ⟨c.toArray⟩, .string ⟨sv.toArray⟩, .string ⟨wd.toArray⟩, .slice none 0 0] 93)).drew) := Lib.hid (by
        have hal : Below w2.heap.size w2 (w2.alloc (.cells #[.string ⟨c.toArray⟩, .string ⟨sv.toArray⟩, .string ⟨wd.toArray⟩, .slice none 0 0] 93)) := (Below.refl _ _).alloc (Nat.le_refl _) _
        have h0 : Ls w w2.heap.size g (c :: sv :: wd :: rest) (.string ⟨c.toArray⟩) (.string ⟨sv.toArray⟩) (.string ⟨wd.toArray⟩) (w2.heap.size + 1) 0 (.slice none 0 0) rest (w2.alloc (.cells #[.string ⟨c.toArray⟩, .string ⟨sv.toArray⟩, .string ⟨wd.toArray⟩, .slice none 0 0] 93)) :=
          ⟨⟨heap_alloc_new w2 _, below_step HB2.out.below hal, HB2.out.below.size⟩, fun k x hx => (hal.cell hgl).trans (HRow.out k x hx), World.ownsRow_nil _ _ _ _, by omega, Nat.lt_succ_self _, by omega, by simp⟩
        exact h0.kept ⟨rfl, rfl, rfl, Nat.le_refl _, fun _ _ => rfl⟩)
      have HZ : Hid ((w2.alloc (.cells #[.string ⟨c.toArray⟩, .string ⟨sv.toArray⟩, .string ⟨wd.toArray⟩, .slice none 0 0] 93)).drew.heap[b]? = some (.cells #[.string ⟨#[]⟩, .string ⟨#[]⟩, .string ⟨#[]⟩, .slice none 0 0] 93 (0, 0))) := Lib.hid (by
        have hal : Below w2.heap.size w2 (w2.alloc (.cells #[.string ⟨c.toArray⟩, .string ⟨sv.toArray⟩, .string ⟨wd.toArray⟩, .slice none 0 0] 93)) := (Below.refl _ _).alloc (Nat.le_refl _) _
        exact (hal.block b (Array.getElem?_eq_some_iff.1 HB2.out.bk).1).trans HB2.out.bk)
      generalize (w2.alloc (.cells #[.string ⟨c.toArray⟩, .string ⟨sv.toArray⟩, .string ⟨wd.toArray⟩, .slice none 0 0] 93)).drew = w3 at *
      generalize hb7 : w2.heap.size = b7 at *
      have HB7 := Lib.hid (show b + 1 ≤ b7 from HSz2.out)
      clear HALL HBd HBa hb7
      have HZl : Hid (∀ wx, Below w.heap.size w wx → wx.heap[b]? = some (.cells #[.string ⟨#[]⟩, .string ⟨#[]⟩, .string ⟨#[]⟩, .slice none 0 0] 93 (0, 0)) → Lb w b (.string ⟨#[]⟩) (.string ⟨#[]⟩) (.string ⟨#[]⟩) (.slice none 0 0) wx) := Lib.hid fun wx h1 h2 => ⟨h2, h1, by omega⟩
      have hRl : rest.length ≤ 1025 := by
        have := (wordsS_len _ _ _ _ HN.out).2
        have h2 := HL.out
        simp only [List.length_cons, List.length_nil] at this
        omega
      have HWd : Hid (∀ y ∈ rest, y.length ≤ 1024) := Lib.hid fun y hy => by
        rcases (wordsS_len _ _ _ _ HN.out).1 y (by simp [hy]) with h | h
        · cases h
        · have h2 := HL.out; omega
      have hR : N - 3 = rest.length := by have := HM.out; omega
      have hcN : (N : Int) ≤ (cap : Int) := by omega
      have hc3 : (3 : Int) ≤ (cap : Int) := by omega
      generalize hRR : rest.length = R at *
      have HR0 := Lib.hid hRR
      clear hRR
      have hwhy : whyR c sv wd rest = if rightR ⟨c.toArray⟩ ⟨sv.toArray⟩ ⟨wd.toArray⟩ [] ≠ 0 then rightR ⟨c.toArray⟩ ⟨sv.toArray⟩ ⟨wd.toArray⟩ [] else if bads rest ≠ 0 then bads rest else rightR ⟨c.toArray⟩ ⟨sv.toArray⟩ ⟨wd.toArray⟩ (adrs rest) := rfl
      have HWhy := Lib.hid hwhy
      clear hwhy
      obtain ⟨k0, k1, k2, k3⟩ := HLs.out.lb.cell
      have HR1 := Lib.hid (rright_any ⟨c.toArray⟩ ⟨sv.toArray⟩ ⟨wd.toArray⟩ none 0 0 [] w3 (ints_nil _) (Nat.le_refl _) (by decide))
      obtain ⟨y0, hy0⟩ : ∃ y0, rightR ⟨c.toArray⟩ ⟨sv.toArray⟩ ⟨wd.toArray⟩ [] = y0 := ⟨_, rfl⟩
      rw [hy0] at HR1
      have HY0 := Lib.hid hy0
      clear hy0
      cases h0 : (y0 != 0) with
      | true =>
        have hy0n : y0 ≠ 0 := by simpa using h0
        have HF := Lib.hid (show lineS s.data.toList = .error y0 by
          have := HBad.out
          rw [HWhy.out, HY0.out, if_pos hy0n] at this
          exact this hy0n)
        go_wp2_with (go_at_call 76; go_loud (refine HR1.out.mono ?_; rintro e w4 ⟨rfl, hb4⟩; have HL4 := Lib.hid (HLs.out.kept hb4); have HZ4 := Lib.hid (HZl.out w4 HL4.out.lb.below ((hb4.block b (Array.getElem?_eq_some_iff.1 HZ.out).1).trans HZ.out)); obtain ⟨z0, z1, z2, z3⟩ := HZ4.out.cell; have f0 := HZ4.out.froz 0; have f1 := HZ4.out.froz 1; have f2 := HZ4.out.froz 2; have f3 := HZ4.out.froz 3; have HP := Lib.hid (HZ4.out.put (.string ⟨#[]⟩) (.string ⟨#[]⟩) (.string ⟨#[]⟩) (.slice none 0 0)); clear hb4))
        refine bodyPost_ret (results_row3 rfl _ _ b 93 #[.string ⟨#[]⟩, .string ⟨#[]⟩, .string ⟨#[]⟩, .slice none 0 0] (0, 0) _ rfl HP.out.bk Tryz.underlying93 rfl (by kernel_rfl)) rfl ?_
        exact KRet.err HF.out HP.out.below
      | false =>
        have hy0z : y0 = 0 := by simpa using h0
        have HWhy2 := Lib.hid (show whyR c sv wd rest = if bads rest ≠ 0 then bads rest else rightR ⟨c.toArray⟩ ⟨sv.toArray⟩ ⟨wd.toArray⟩ (adrs rest) by rw [HWhy.out, HY0.out, if_neg (by simp [hy0z])])
        go_upto_region 12 with (go_at_call 76; go_loud (refine HR1.out.mono ?_; rintro e w4 ⟨rfl, hb4⟩; have HL4 := Lib.hid (HLs.out.kept hb4); have HZ4 := Lib.hid ((hb4.block b (Array.getElem?_eq_some_iff.1 HZ.out).1).trans HZ.out); clear hb4))
        clear k0 k1 k2 k3 HLs HZ
        go_cut [57, 58, 59] (fun s57 s58 s59 wx => wx = w4 ∧ s58 = .int .i64 R ∧ s59 = .int .i64 0 ∧ ∃ (ad : Addr) (cc : Nat), s57 = .slice (some ad) R cc ∧ (0 < R → ad = ⟨g, 3, none⟩))
        case first =>
          by_cases hcap : cap = 3
          · have hN3 : N = 3 := by omega
            subst hcap
            subst hN3
            obtain rfl : R = 0 := by omega
            go_wp2
            go_meet
            exact ⟨rfl, rfl, rfl, _, _, rfl, fun h => absurd h (Nat.lt_irrefl 0)⟩
          · go_wp2
            go_meet
            exact ⟨rfl, by first | rfl | simp, rfl, _, _, rfl, fun _ => rfl⟩
        case rest =>
        obtain ⟨hwx, rfl, rfl, ad, cc, rfl, had⟩ := hcut
        subst hwx
        go_wp2
        go_loopg [59] R (fun k s59 wx => ∃ (j : Nat) (v : Value), j + k = R ∧ s59 = .int .i64 j ∧ Hid (bads (rest.take j) = 0) ∧ Hid (Ls w b7 g (c :: sv :: wd :: rest) (.string ⟨c.toArray⟩) (.string ⟨sv.toArray⟩) (.string ⟨wd.toArray⟩) (b7 + 1) j v rest wx) ∧ Hid (wx.heap[b]? = some (.cells #[.string ⟨#[]⟩, .string ⟨#[]⟩, .string ⟨#[]⟩, .slice none 0 0] 93 (0, 0))))
        case atStart => exact ⟨0, _, by omega, rfl, Lib.hid rfl, HL4, HZ4⟩
        case round =>
          obtain ⟨j, v, hjk, rfl, HBz, HR, HZx⟩ := hrel
          obtain ⟨ao, capA, rfl⟩ := own_slice HR.out.own
          cases gk with
          | zero =>
            obtain rfl : j = R := by omega
            have hfull : rest.take j = rest := List.take_of_length_le (by rw [HR0.out]; exact Nat.le_refl _)
            have hown := HR.out.own
            have hcaps := own_caps hown
            rw [hfull] at hown
            obtain ⟨ao3, cap3, he3, hI, hO, hcz⟩ := ints_own_t hown (adrs_wf rest)
            simp only [Value.slice.injEq] at he3
            obtain ⟨rfl, _, rfl⟩ := he3
            have HI := Lib.hid hI
            have HO := Lib.hid hO
            have HCZ := Lib.hid hcz
            have HBz2 := Lib.hid (hfull ▸ HBz.out : bads rest = 0)
            have HRi := Lib.hid (rright_any ⟨c.toArray⟩ ⟨sv.toArray⟩ ⟨wd.toArray⟩ ao j capA (adrs rest) wr HI.out hcaps.1 hcaps.2)
            clear hown hI hO hcz hfull hcaps
            obtain ⟨k0, k1, k2, k3⟩ := HR.out.lb.cell
            obtain ⟨y, hy⟩ : ∃ y, rightR ⟨c.toArray⟩ ⟨sv.toArray⟩ ⟨wd.toArray⟩ (adrs rest) = y := ⟨_, rfl⟩
            have HYw := Lib.hid (show whyR c sv wd rest = y by rw [HWhy2.out, if_neg (by simp [HBz2.out]), hy])
            rw [hy] at HRi
            clear hy
            cases hyb : (y != 0) with
            | true =>
              have hyn : y ≠ 0 := by simpa using hyb
              have HF := Lib.hid (show lineS s.data.toList = .error y by
                have := HBad.out
                rw [HYw.out] at this
                exact this hyn)
              go_wp2_with (go_at_call 76; go_loud (refine HRi.out.mono ?_; rintro e w5 ⟨rfl, hb5⟩; have HL5 := Lib.hid (HR.out.kept hb5); have HZ5 := Lib.hid (HZl.out w5 HL5.out.lb.below ((hb5.block b (Array.getElem?_eq_some_iff.1 HZx.out).1).trans HZx.out)); obtain ⟨z0, z1, z2, z3⟩ := HZ5.out.cell; have f0 := HZ5.out.froz 0; have f1 := HZ5.out.froz 1; have f2 := HZ5.out.froz 2; have f3 := HZ5.out.froz 3; have HP := Lib.hid (HZ5.out.put (.string ⟨#[]⟩) (.string ⟨#[]⟩) (.string ⟨#[]⟩) (.slice none 0 0)); clear hb5))
              refine bodyPost_ret (results_row3 rfl _ _ b 93 #[.string ⟨#[]⟩, .string ⟨#[]⟩, .string ⟨#[]⟩, .slice none 0 0] (0, 0) _ rfl HP.out.bk Tryz.underlying93 rfl (by kernel_rfl)) rfl ?_
              exact KRet.err HF.out HP.out.below
            | false =>
              have hyz : y = 0 := by simpa using hyb
              have HF := Lib.hid (HGood.out (HYw.out.trans hyz))
              go_wp2_with (go_at_call 76; go_loud (refine HRi.out.mono ?_; rintro e w5 ⟨rfl, hb5⟩; have HL5 := Lib.hid (HR.out.kept hb5); have HZ5 := Lib.hid (HZl.out w5 HL5.out.lb.below ((hb5.block b (Array.getElem?_eq_some_iff.1 HZx.out).1).trans HZx.out)); obtain ⟨z0, z1, z2, z3⟩ := HZ5.out.cell; have f0 := HZ5.out.froz 0; have f1 := HZ5.out.froz 1; have f2 := HZ5.out.froz 2; have f3 := HZ5.out.froz 3; have HP := Lib.hid (HZ5.out.put (.string ⟨c.toArray⟩) (.string ⟨sv.toArray⟩) (.string ⟨wd.toArray⟩) (.slice ao j capA)); obtain ⟨y0, y1, y2, y3⟩ := HL5.out.lb.cell; have HI5 := Lib.hid (HI.out.kept hb5); have HO5 := Lib.hid (HO.out.kept hb5); clear hb5))
              refine bodyPost_ret (results_row3 rfl _ _ b 93 #[.string ⟨c.toArray⟩, .string ⟨sv.toArray⟩, .string ⟨wd.toArray⟩, .slice ao j capA] (0, 0) _ rfl HP.out.bk Tryz.underlying93 rfl (by kernel_rfl)) rfl ?_
              have hne : ∀ a, ao = some a → a.block ≠ b := fun a ha => by
                have h1 := (HO5.out a ha).1
                have h2 := HB7.out
                omega
              have hw0 : w.heap.size ≤ b7 + 1 := by have := HB7.out; omega
              exact KRet.good HF.out HI5.out.len ((((HI5.out.setCell hne _).setCell hne _).setCell hne _).setCell hne _) ((((((HO5.out.setCell hne _).setCell hne _).setCell hne _).setCell hne _)).mono hw0) HCZ.out HP.out.below
          | succ k =>
            have hj : (j : Int) < (R : Int) := by omega
            have hj0 : (0 : Int) ≤ (j : Int) := by omega
            obtain rfl := had (by omega)
            have hjl : j < rest.length := by rw [HR0.out]; omega
            obtain ⟨y, hy⟩ : ∃ y, rest[j]? = some y := ⟨_, List.getElem?_eq_getElem hjl⟩
            have q0 : wr.cell? ⟨g, 3 + j, none⟩ = some (.string ⟨y.toArray⟩) := HR.out.row (3 + j) y (by rw [Nat.add_comm]; simpa using hy)
            have HY := Lib.hid hy
            have HA := Lib.hid (raddr_any ⟨y.toArray⟩ (by
              show y.toArray.size < _
              have := HWd.out y (List.mem_of_getElem? hy)
              simp; omega) wr)
            have HBs := Lib.hid (show bads (rest.take (j + 1)) = (addrR y).2 by
              rw [List.take_add_one, hy]
              simp only [Option.toList_some]
              rw [bads_snoc, if_neg (by simp [HBz.out])])
            obtain ⟨i2, hi2, hz0, hz1, hz2⟩ := info_parts info2
            clear hy hjl
            cases hq : ((addrR y).2 != 0) with
            | true =>
              have hqn : (addrR y).2 ≠ 0 := by simpa using hq
              have HF := Lib.hid (show lineS s.data.toList = .error (addrR y).2 by
                have h1 := bads_at HBz.out HY.out hqn
                have := HBad.out
                rw [HWhy2.out, h1, if_pos hqn] at this
                exact this hqn)
              have HZ5 := Lib.hid (HZl.out wr HR.out.lb.below HZx.out)
              obtain ⟨z0, z1, z2, z3⟩ := HZ5.out.cell
              have f0 := HZ5.out.froz 0
              have f1 := HZ5.out.froz 1
              have f2 := HZ5.out.froz 2
              have f3 := HZ5.out.froz 3
              have HP := Lib.hid (HZ5.out.put (.string ⟨#[]⟩) (.string ⟨#[]⟩) (.string ⟨#[]⟩) (.slice none 0 0))
              go_wp2_with (go_at_call 77; go_loud (refine HA.out.mono ?_; rintro e w5 ⟨rfl, hw5⟩; have hw5 := hw5.symm; subst hw5))
              refine bodyPost_ret (results_row3 rfl _ _ b 93 #[.string ⟨#[]⟩, .string ⟨#[]⟩, .string ⟨#[]⟩, .slice none 0 0] (0, 0) _ rfl HP.out.bk Tryz.underlying93 rfl (by kernel_rfl)) rfl ?_
              exact KRet.err HF.out HP.out.below
            | false =>
              have hqz : (addrR y).2 = 0 := by simpa using hq
              have HQ := Lib.hid (HBs.out.trans hqz)
              have p3 := HR.out.lb.cell.2.2.2
              have HR5 := Lib.hid (HR.out.kept ((Below.refl _ _).alloc (Nat.le_refl _) (.cells #[.int .i64 (addrR y).1] 2)))
              have HZ5 : Hid ((wr.alloc (.cells #[.int .i64 (addrR y).1] 2)).heap[b]? = some (.cells #[.string ⟨#[]⟩, .string ⟨#[]⟩, .string ⟨#[]⟩, .slice none 0 0] 93 (0, 0))) := Lib.hid ((((Below.refl wr.heap.size wr).alloc (Nat.le_refl _) (.cells #[.int .i64 (addrR y).1] 2)).block b (Array.getElem?_eq_some_iff.1 HZx.out).1).trans HZx.out)
              clear hqz
              go_wp2_with (first
                | (go_at_call 77; go_loud (refine HA.out.mono ?_; rintro e w4 ⟨rfl, hw5⟩; have hw5 := hw5.symm; subst hw5))
                | (at_builtin; go_loud (refine wpList_append_own _ rfl _ _ 22 rfl (b7 + 1) 2 i2 (.int .i64 0) 1 8 Tryz.underlying22 hi2 hz0 hz1 hz2 rfl (by decide) _ _ _ rfl HR5.out.own ⟨wr.heap.size, 0, none⟩ 1 1 [.int .i64 (addrR y).1] rfl rfl (cell_one_new _ _ _) (fun u hu => by simp at hu; subst hu; rfl) (by unfold maxLen; omega) (by omega) (by have := HR5.out.Bs; simp at this ⊢; omega) ?_; intro v' w5 hown' hgrow' hnil'; obtain ⟨ao2, cap2, rfl⟩ := own_slice hown'; obtain ⟨q1, q2⟩ := HR5.out.grown hgrow'; have HO := Lib.hid hown'; have HG := Lib.hid hgrow'; clear hown' hgrow' hnil')))
              obtain ⟨kb, hkb⟩ := own_block HO.out (Nat.succ_pos _)
              go_roundg k
              case measure => omega
              case rel => exact ⟨j + 1, _, by omega, by simp, HQ, Lib.hid (HR5.out.next HY.out HO.out HG.out hkb), Lib.hid (HR5.out.keepz HZ5.out (by have := HB7.out; omega) (by have := HB7.out; omega) HG.out)⟩
end Go.Proofs.Sr
