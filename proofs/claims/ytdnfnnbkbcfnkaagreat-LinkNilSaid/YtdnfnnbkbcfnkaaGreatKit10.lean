/- A certified evaluator of calls, run by the kernel, with its rules for what is not known: what it tells holds of every program. -/
import Derived.Test.YtdnfnnbkbcfnkaaGreatKit6
import Derived.Test.YtdnfnnbkbcfnkaaGreatKit9
namespace Go.Ev
open Go Go.RowKit

section
variable {P : Program}
/-- A contract over a row that came in, as a call at any heap that holds such a row. -/
theorem ctup_row_of_calls {g : FuncId} {cs : List Value} {e : TypeId} {lo hi : Nat} {ex st : Bool} {n c : Nat} {front rest : List Value} {v : Value} (hff : flatL front = true) (hf : flatL rest = true) (hv : flatV v = true) (hcs : flatL cs = true) (hone : cs.all oneCell = true) (hc : 0 < c)
    (hcall : ∀ (W : World) (a : Addr) (c' : Nat), Came W cs a → c ≤ c' → Calls P g ⟨front ++ .slice (some a) n c' :: rest⟩ W fun en w' => en = .returned v ∧ Quiet W w')
    {h1 : AH} {id : Nat} (hg : h1.get id = some (.cells cs e lo hi ex st)) : CTup P 0 g (front ++ .slice (some ⟨id, 0, none⟩) n c :: rest) h1 (.ret v) (h1.rdBit id) := by
  have t : CTup P 0 g (front ++ .slice (some ⟨0, 0, none⟩) n c :: rest) (rowH cs e lo hi ex st 0) (.ret v) ((rowH cs e lo hi ex st 0).rdBit 0) := by
    intro wf
    refine ⟨⟨ext_rdBit _ 0, wf_rdBit wf 0⟩, fun κ G args' w _ hrel hvl hag _ => ?_⟩
    have hG : G 0 = some (.cells cs e lo hi ex st) := by
      rw [hag 0 (by show 0 < 1; omega) (by unfold AH.touched; rw [rd_rdBit]; simp)]
      exact rowH_get ..
    obtain ⟨b, hb, hin⟩ := hrel.at_ 0 _ hG
    obtain ⟨q1, q2, q3, c', fz, ⟨e', q4, _⟩, q5, q6, q7⟩ := hin
    obtain ⟨l1, l2, hl0, hl1, hl2⟩ := VL.split (b := .slice (some ⟨0, 0, none⟩) n c :: rest) hvl
    have hl1' := VL.eq_of_flat hl1 hff
    subst hl1'
    cases hl2 with
    | cons h1 h2 =>
      have h2' := VL.eq_of_flat h2 hf
      subst h2'
      cases h1 with
      | @slice _ a2 _ _ c2 hs =>
        obtain ⟨a1, a3, b', a4, a5, a6⟩ := hs
        rw [hb] at a4
        cases a4
        have hoff : a2.off = b.sh ∧ c ≤ c2 := by
          rcases a6 with ⟨r1, r2⟩ | ⟨_, _, _, r3, r4⟩
          · exact ⟨r1, by omega⟩
          · rcases r4 with r4 | ⟨_, r4⟩
            · exact ⟨r4, r3⟩
            · omega
        have hcame : Came w cs a2 := by
          refine ⟨a3, ⟨c', e', fz, by rw [a5]; exact q4, by rw [hoff.1, q5]; exact q3, fun i x hx => ?_⟩, hcs⟩
          obtain ⟨v', r1, r2⟩ := q6 i x hx
          have hfx : flatV x = true := flat_mem hcs (List.mem_of_getElem? hx)
          rw [hoff.1]
          rw [VR.eq_of_flat (r2 (List.all_eq_true.1 hone x (List.mem_of_getElem? hx))) hfx] at r1
          exact r1
        have e0 : args' = ⟨args'.toList⟩ := by cases args'; rfl
        rw [e0, hl0]
        refine (hcall w a2 c2 hcame hoff.2).mono fun en w' hen => ?_
        obtain ⟨rfl, q⟩ := hen
        refine ⟨κ, .ret (VR.flat v hv), ?_, K.le_refl _, fun _ _ => rfl, fun _ _ e => .inl e, fun k hk _ => q.keep k hk, q.os, q.tape, q.output, q.size⟩
        have hm : merge (rowH cs e lo hi ex st 0) ((rowH cs e lo hi ex st 0).rdBit 0) G = G := by
          funext i
          unfold merge
          rw [if_neg]
          rintro (⟨x1, x2⟩ | x1)
          · have x2' : i < 1 := x2
            have x1' : 1 ≤ i := x1
            omega
          · have x1' : (0 : Nat).testBit i = true := x1
            simp at x1'
        rw [hm]
        exact ⟨fun i o hi => let ⟨b, hb, hin⟩ := hrel.at_ i o hi; ⟨b, hb, hin.heap (q.keep _ (hrel.old i b hb))⟩, hrel.one, fun i b hb => Nat.lt_of_lt_of_le (hrel.old i b hb) q.size⟩
  exact CTup.row t hff hf hv hcs (by show (0 : Nat).testBit 0 = false; simp) hg

/-- The same of a slice of nothing: where it points to is not told. -/
theorem ctup_none_of_calls {g : FuncId} {cs : List Value} {e : TypeId} {lo hi : Nat} {ex st : Bool} {c : Nat} {front rest : List Value} {v : Value} (hff : flatL front = true) (hf : flatL rest = true) (hv : flatV v = true) (hcs : flatL cs = true)
    (hcall : ∀ (W : World) (a : Addr) (c' : Nat), Came W [] a → c ≤ c' → Calls P g ⟨front ++ .slice (some a) 0 c' :: rest⟩ W fun en w' => en = .returned v ∧ Quiet W w')
    {h1 : AH} {id : Nat} (hg : h1.get id = some (.cells cs e lo hi ex st)) : CTup P 0 g (front ++ .slice (some ⟨id, 0, none⟩) 0 c :: rest) h1 (.ret v) (h1.rdBit id) := by
  have t : CTup P 0 g (front ++ .slice (some ⟨0, 0, none⟩) 0 c :: rest) (rowH cs e lo hi ex st 0) (.ret v) ((rowH cs e lo hi ex st 0).rdBit 0) := by
    intro wf
    refine ⟨⟨ext_rdBit _ 0, wf_rdBit wf 0⟩, fun κ G args' w _ hrel hvl hag _ => ?_⟩
    have hG : G 0 = some (.cells cs e lo hi ex st) := by
      rw [hag 0 (by show 0 < 1; omega) (by unfold AH.touched; rw [rd_rdBit]; simp)]
      exact rowH_get ..
    obtain ⟨b, hb, hin⟩ := hrel.at_ 0 _ hG
    obtain ⟨q1, q2, q3, c', fz, ⟨e', q4, _⟩, q5, q6, q7⟩ := hin
    obtain ⟨l1, l2, hl0, hl1, hl2⟩ := VL.split (b := .slice (some ⟨0, 0, none⟩) 0 c :: rest) hvl
    have hl1' := VL.eq_of_flat hl1 hff
    subst hl1'
    cases hl2 with
    | cons h1 h2 =>
      have h2' := VL.eq_of_flat h2 hf
      subst h2'
      cases h1 with
      | @slice _ a2 _ _ c2 hs =>
        obtain ⟨a1, a3, b', a4, a5, a6⟩ := hs
        rw [hb] at a4
        cases a4
        have hoff : a2.off ≤ c'.size ∧ c ≤ c2 := by
          rcases a6 with ⟨r1, r2⟩ | ⟨_, r2, _, r3, _⟩
          · have r1' : a2.off = b.sh + 0 := r1
            exact ⟨by omega, by omega⟩
          · exact ⟨by have := Nat.le_add_right a2.off (c2 * b.sz); omega, r3⟩
        have hcame : Came w [] a2 := by
          refine ⟨a3, ⟨c', e', fz, by rw [a5]; exact q4, by simpa using hoff.1, fun i x hx => by simp at hx⟩, rfl⟩
        have e0 : args' = ⟨args'.toList⟩ := by cases args'; rfl
        rw [e0, hl0]
        refine (hcall w a2 c2 hcame hoff.2).mono fun en w' hen => ?_
        obtain ⟨rfl, q⟩ := hen
        refine ⟨κ, .ret (VR.flat v hv), ?_, K.le_refl _, fun _ _ => rfl, fun _ _ e => .inl e, fun k hk _ => q.keep k hk, q.os, q.tape, q.output, q.size⟩
        have hm : merge (rowH cs e lo hi ex st 0) ((rowH cs e lo hi ex st 0).rdBit 0) G = G := by
          funext i
          unfold merge
          rw [if_neg]
          rintro (⟨x1, x2⟩ | x1)
          · have x2' : i < 1 := x2
            have x1' : 1 ≤ i := x1
            omega
          · have x1' : (0 : Nat).testBit i = true := x1
            simp at x1'
        rw [hm]
        exact ⟨fun i o hi => let ⟨b, hb, hin⟩ := hrel.at_ i o hi; ⟨b, hb, hin.heap (q.keep _ (hrel.old i b hb))⟩, hrel.one, fun i b hb => Nat.lt_of_lt_of_le (hrel.old i b hb) q.size⟩
  exact CTup.row t hff hf hv hcs (by show (0 : Nat).testBit 0 = false; simp) hg

/-! ### what a function gives back -/

theorem results_one {fn : Func} {s : Nat} (hres : fn.results = #[.tmp s]) (a : Act) (w : World) : (results fn a.tmps).run P w = .ok (a.tmps.getD s undef) w := by
  unfold results
  rw [hres]
  rw [Array.getD_eq_getD_getElem?]
  simp
theorem results_two {fn : Func} {s t : Nat} (hres : fn.results = #[.tmp s, .tmp t]) (a : Act) (w : World) : (results fn a.tmps).run P w = .ok (.tuple #[a.tmps.getD s undef, a.tmps.getD t undef]) w := by
  unfold results
  rw [hres]
  rw [Array.getD_eq_getD_getElem?, Array.getD_eq_getD_getElem?]
  simp
theorem Here.flat_at {m N : Nat} {W : World} {live : List (Nat × Value)} {obj : List (Option AObj)} {a : Act} {w : World} (h : Here P m W N live obj a w) {s : Nat} {v : Value} (hm : (s, v) ∈ live) (hv : flatV v = true) : a.tmps.getD s undef = v := by
  obtain ⟨κ, G, f, s'⟩ := h
  have h1 := s'.fr.at_ s
  rw [holds_mem s'.holds hm] at h1
  exact VR.eq_of_flat h1 hv
theorem Here.nil_at {m N : Nat} {W : World} {live : List (Nat × Value)} {obj : List (Option AObj)} {a : Act} {w : World} (h : Here P m W N live obj a w) {s : Nat} (hm : (s, .slice none 0 0) ∈ live) : a.tmps.getD s undef = .slice none 0 0 := by
  obtain ⟨κ, G, f, s'⟩ := h
  have h1 := s'.fr.at_ s
  rw [holds_mem s'.holds hm] at h1
  generalize a.tmps.getD s undef = u at h1
  cases h1
  rfl
theorem Here.row_at {m N : Nat} {W : World} {live : List (Nat × Value)} {obj : List (Option AObj)} {a : Act} {w : World} (h : Here P m W N live obj a w) {s j k c : Nat} {r : List Value} {e : TypeId} {lo hi : Nat} {ex st : Bool} (hc : 0 < c)
    (hm : (s, .slice (some ⟨j, 0, none⟩) k c) ∈ live) (hj : j < obj.length) (ho : objAt obj j = some (.cells r e lo hi ex st)) (hf : flatL r = true) (hone : r.all oneCell = true) :
    ∃ a2 c2, a.tmps.getD s undef = .slice (some a2) k c2 ∧ Came w r a2 ∧ c ≤ c2 := by
  obtain ⟨κ, G, f, s'⟩ := h
  have h1 := s'.fr.at_ s
  rw [holds_mem s'.holds hm] at h1
  obtain ⟨b, hb, hin⟩ := s'.rel.at_ j _ ((s'.full j hj).trans ho)
  obtain ⟨q1, q2, q3, c', fz, ⟨e', q4, _⟩, q5, q6, q7⟩ := hin
  generalize a.tmps.getD s undef = u at h1
  cases h1 with
  | @slice _ a2 _ _ c2 hs =>
    obtain ⟨a1, a3, b', a4, a5, a6⟩ := hs
    rw [hb] at a4
    cases a4
    have hoff : a2.off = b.sh ∧ c ≤ c2 := by
      rcases a6 with ⟨r1, r2⟩ | ⟨_, _, _, r3, r4⟩
      · exact ⟨r1, by omega⟩
      · rcases r4 with r4 | ⟨_, r4⟩
        · exact ⟨r4, r3⟩
        · omega
    refine ⟨a2, c2, rfl, ⟨a3, ⟨c', e', fz, by rw [a5]; exact q4, by rw [hoff.1, q5]; exact q3, fun i x hx => ?_⟩, hf⟩, hoff.2⟩
    obtain ⟨v', r1, r2⟩ := q6 i x hx
    rw [hoff.1]
    rw [VR.eq_of_flat (r2 (List.all_eq_true.1 hone x (List.mem_of_getElem? hx))) (flat_mem hf (List.mem_of_getElem? hx))] at r1
    exact r1
theorem Here.below {m N : Nat} {W : World} {live : List (Nat × Value)} {obj : List (Option AObj)} {a : Act} {w : World} (h : Here P m W N live obj a w) : Below W.heap.size W w := by
  obtain ⟨κ, G, f, s'⟩ := h
  exact s'.below
theorem Here.df {m N : Nat} {W : World} {live : List (Nat × Value)} {obj : List (Option AObj)} {a : Act} {w : World} (h : Here P m W N live obj a w) : a.defers = [] := by
  obtain ⟨κ, G, f, s'⟩ := h
  exact s'.df
/-- A function's call, from what is known of its body. -/
theorem here_calls_v {m N : Nat} {W : World} {e : TypeId} {rows : List (List Value × Addr)} {g : FuncId} {fn : Func} {c : Code} {args : List Value} {args' : Array Value} (hfn : P.funcs[g]? = some fn) (hb : fn.body = some c)
    (hm : rows.length = m) (hr : ∀ r ∈ rows, Came W r.1 r.2) (hargs : VL (cameK P W e rows) args args'.toList) (hk : args.length + (fn.ntmps - args.length) = N) (hN : small N = true) {live : List (Nat × Value)} (hl : Holds ({ t := ofArgs args 0 .nil, n := N } : Fr) live)
    (Post : Value → World → Prop)
    (hwp : ∀ a, Here P m W N live (rowsObj e rows) a W → c.wp P (fun ex a' w' => (ex = .ret ∨ ex = .normal) ∧ a'.defers = [] ∧ ∃ v, (results fn a'.tmps).run P w' = .ok v w' ∧ Post v w') a W) :
    Calls P g args' W fun en w' => ∃ v, en = .returned v ∧ Post v w' := by
  refine calls_of_wp hfn hb (wp_mono (hwp _ (here_start (e := e) hm hr hargs fn.ntmps hk hN hl)) fun ex a' w' he => ?_)
  obtain ⟨hex, hd, v, hrun, hp⟩ := he
  rcases hex with rfl | rfl
  · exact ⟨hd, v, hrun, v, rfl, hp⟩
  · exact ⟨hd, v, hrun, v, rfl, hp⟩
theorem Below.quiet {W w : World} (h : Below W.heap.size W w) : Quiet W w := ⟨h.os, h.tape, h.output, h.size, h.block⟩
end
end Go.Ev
