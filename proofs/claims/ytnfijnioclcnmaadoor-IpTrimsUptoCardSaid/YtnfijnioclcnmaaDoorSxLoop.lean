/- Loops whose number of rounds is not known, and rows. Holds for every program. -/
import Derived.Test.YtnfijnioclcnmaaDoorSxOps
import Derived.LoopN
namespace Go.Ev
open Go Go.RowKit

section
variable {P : Program} {gl : Nat}
def Tup (P : Program) (gl : Nat) (f : Fr) (h : AH) (ex : AExit) (f' : Fr) (h' : AH) (W : (Exit → Act → World → Prop) → Act → World → Prop) : Prop := WF h → small f.n = true → (Ext h h' ∧ WF h' ∧ f'.n = f.n) ∧
  ∀ (κ : K) (G : Nat → Option AObj) (a : Act) (w : World) (n0 : Nat) (Q : Exit → Act → World → Prop), KG gl κ → Rel P κ G w → FrR κ f a → DfR P κ w n0 f.ds a.defers → n0 ≤ w.heap.size → Agree h h' G → Fresh h h' κ G →
    (∀ κ' ex' a' w', ExR κ' ex ex' → Rel P κ' (merge h h' G) w' → FrR κ' f' a' → DfR P κ' w' n0 f'.ds a'.defers → KX h h' κ κ' w w' → Q ex' a' w') → W Q a w
abbrev RTup (P : Program) (gl : Nat) (c : Code) (n : Nat) (f : Fr) (h : AH) (ex : AExit) (f' : Fr) (h' : AH) : Prop := Tup P gl f h ex f' h' fun Q => Code.rounds P c Q n

theorem RTup.out {c : Code} {f : Fr} {h : AH} {ex : AExit} {f' : Fr} {h' : AH} (t : LTup P gl c f h ex f' h') (hn : ex ≠ .normal) : RTup P gl c 1 f h ex f' h' := by
  intro wf hs
  obtain ⟨x, s⟩ := t wf hs
  refine ⟨x, fun κ G a w n0 Q hg hrel hfr hdf hn0 hag hfs hq => ?_⟩
  show Code.rounds P c Q (0 + 1) a w
  rw [rounds_succ]
  exact s κ G a w n0 _ hg hrel hfr hdf hn0 hag hfs fun κ' ex' a' w' q0 q1 q2 q3 q4 => exit_then q0 hn (hq κ' ex' a' w' q0 q1 q2 q3 q4)
theorem RTup.round {c : Code} {n : Nat} {f f1 f2 : Fr} {h h1 h2 : AH} {ex : AExit} (t : LTup P gl c f h .normal f1 h1) (r : RTup P gl c n f1 h1 ex f2 h2) : RTup P gl c (n + 1) f h ex f2 h2 := by
  intro wf hs
  obtain ⟨⟨x1, wf1, hn1⟩, s1⟩ := t wf hs
  obtain ⟨⟨x2, wf2, hn2⟩, s2⟩ := r wf1 (by rw [hn1]; exact hs)
  refine ⟨⟨x1.trans x2, wf2, hn2.trans hn1⟩, fun κ G a w n0 Q hg hrel hfr hdf hn0 hag hfs hq => ?_⟩
  show Code.rounds P c Q (n + 1) a w
  rw [rounds_succ]
  refine s1 κ G a w n0 _ hg hrel hfr hdf hn0 (hag.left x2) (hfs.left x2) fun κ1 ex1 a1 w1 q0 q1 q2 q3 q4 => ?_
  cases q0
  refine s2 κ1 _ a1 w1 n0 Q (hg.mono q4.le) q1 q2 q3 (Nat.le_trans hn0 (step_kx q4)) (hag.right x1) (hfs.right x1 q4 fun id _ hw => wf1.wr id hw) fun κ2 ex2 a2 w2 r0 r1 r2 r3 r4 => ?_
  exact hq κ2 ex2 a2 w2 r0 (by rw [merge_merge x1 x2] at r1; exact r1) r2 r3 (q4.trans x1 x2 r4)
theorem RTup.loop {c : Code} {n : Nat} {f : Fr} {h : AH} {ex : AExit} {f' : Fr} {h' : AH} (r : RTup P gl c n f h ex f' h') : LTup P gl (.loop c) f h ex f' h' := by
  intro wf hs
  obtain ⟨x, s⟩ := r wf hs
  exact ⟨x, fun κ G a w n0 Q hg hrel hfr hdf hn0 hag hfs hq => wp_loop_rounds n (s κ G a w n0 Q hg hrel hfr hdf hn0 hag hfs hq)⟩
theorem LTup.block {c : Code} {id : Nat} {f : Fr} {h : AH} {f' : Fr} {h' : AH} (t : LTup P gl c f h (.exit id) f' h') : LTup P gl (.block id c) f h .normal f' h' := by
  intro wf hs
  obtain ⟨x, s⟩ := t wf hs
  refine ⟨x, fun κ G a w n0 Q hg hrel hfr hdf hn0 hag hfs hq => wp_block ?_⟩
  refine s κ G a w n0 _ hg hrel hfr hdf hn0 hag hfs fun κ' ex' a' w' q0 q1 q2 q3 q4 => ?_
  cases q0
  show if id = id then Q .normal a' w' else Q (.exit id) a' w'
  rw [if_pos rfl]
  exact hq κ' .normal a' w' .normal q1 q2 q3 q4
/-- Frames that hold the same. -/
structure FrEq (f g : Fr) : Prop where
  n : f.n = g.n
  ds : f.ds = g.ds
  at_ : ∀ i, i < g.n → f.get i = g.get i
  past : ∀ i, g.n ≤ i → g.get i = undef
theorem FrEq.rel {f g : Fr} (h : FrEq f g) {κ : K} {a : Act} (r : FrR κ f a) : FrR κ g a := by
  refine ⟨by rw [← h.n]; exact r.size, fun i => ?_⟩
  by_cases hi : i < g.n
  · rw [← h.at_ i hi]; exact r.at_ i
  · rw [h.past i (by omega)]
    have : a.tmps.getD i undef = undef := by
      rw [Array.getD_eq_getD_getElem?, Array.getElem?_eq_none (by rw [r.size, h.n]; omega)]; rfl
    rw [this]
    exact VR.flat _ undef_flat
/-- From a frame to another one that holds the same, ahead of the code. -/
theorem LTup.start {c : Code} {f g : Fr} {h : AH} {ex : AExit} {f' : Fr} {h' : AH} (e : FrEq f g) (t : LTup P gl c g h ex f' h') : LTup P gl c f h ex f' h' := by
  intro wf hs
  obtain ⟨x, s⟩ := t wf (by rw [← e.n]; exact hs)
  refine ⟨⟨x.1, x.2.1, by rw [x.2.2, e.n]⟩, fun κ G a w n0 Q hg hrel hfr hdf hn0 hag hfs hq => ?_⟩
  exact s κ G a w n0 Q hg hrel (e.rel hfr) (by rw [← e.ds]; exact hdf) hn0 hag hfs hq
/-- And behind it. -/
theorem LTup.end_ {c : Code} {f f1 g1 : Fr} {h : AH} {ex : AExit} {h' : AH} (e : FrEq f1 g1) (t : LTup P gl c f h ex f1 h') : LTup P gl c f h ex g1 h' := by
  intro wf hs
  obtain ⟨x, s⟩ := t wf hs
  refine ⟨⟨x.1, x.2.1, by rw [← e.n]; exact x.2.2⟩, fun κ G a w n0 Q hg hrel hfr hdf hn0 hag hfs hq => ?_⟩
  exact s κ G a w n0 Q hg hrel hfr hdf hn0 hag hfs fun κ' ex' a' w' q0 q1 q2 q3 q4 => hq κ' ex' a' w' q0 q1 (e.rel q2) (by rw [← e.ds]; exact q3) q4
/-- More may have been read ahead. -/
theorem LTup.reads {c : Code} {f f' : Fr} {h h1 h' : AH} {ex : AExit} (m : Marked h h1) (t : LTup P gl c f h1 ex f' h') : LTup P gl c f h ex f' h' := by
  intro wf hs
  obtain ⟨⟨x1, x2, x3⟩, s⟩ := t (m.wf wf) hs
  have hget : ∀ i, h1.get i = h.get i := fun i => by simp [AH.get, m.1]
  refine ⟨⟨m.ext.trans x1, x2, x3⟩, fun κ G a w n0 Q hg hrel hfr hdf hn0 hag hfs hq => ?_⟩
  have hmg : merge h1 h' G = merge h h' G := by unfold merge; rw [m.2.1]
  refine s κ G a w n0 Q hg hrel hfr hdf hn0 (fun i hi ht => ?_) (fun i hi hi' => hfs i (by rw [← m.2.1]; exact hi) hi') fun κ' ex' a' w' q0 q1 q2 q3 q4 => ?_
  · rw [hget]; exact hag i (by rw [← m.2.1]; exact hi) ht
  · exact hq κ' ex' a' w' q0 (hmg ▸ q1) q2 q3 ⟨q4.le, fun id hn => q4.dom id (by rw [m.2.1]; exact hn), q4.new, q4.keep, q4.same⟩

/-! ### frames by their slots -/

def lk : List (Nat × Value) → Nat → Option Value
  | [], _ => none
  | (j, v) :: l, i => cond (Nat.beq i j) (some v) (lk l i)
/-- A frame whose listed slots hold what is listed, the others what another one holds. -/
def canonF (N : Nat) (live : List (Nat × Value)) (J : Fr) : Fr := { t := ofArgs ((List.range N).map fun i => (lk live i).getD (J.get i)) 0 .nil, n := N }
theorem canonF_get {N : Nat} (hN : small N = true) (live : List (Nat × Value)) (J : Fr) (i : Nat) : (canonF N live J).get i = if i < N then (lk live i).getD (J.get i) else undef := by
  show ((ofArgs ((List.range N).map fun i => (lk live i).getD (J.get i)) 0 .nil).get i).getD undef = _
  have := ofArgs_get ((List.range N).map fun i => (lk live i).getD (J.get i)) 0 .nil N hN (by simp) i
  rw [this]
  simp only [Nat.zero_le, true_and, Nat.zero_add, List.length_map, List.length_range, Nat.sub_zero]
  by_cases hi : i < N
  · rw [if_pos hi, if_pos hi]; simp [hi]
  · rw [if_neg hi, if_neg hi]; rfl
/-- What a frame holds at the listed slots. -/
def Holds (f : Fr) : List (Nat × Value) → Prop
  | [] => True
  | (j, v) :: l => f.get j = v ∧ Holds f l
theorem Holds.lk {f : Fr} : ∀ {l : List (Nat × Value)}, Holds f l → ∀ i, (lk l i).getD (f.get i) = f.get i
  | [], _, _ => rfl
  | (j, v) :: l, h, i => by
    unfold Ev.lk
    cases hb : Nat.beq i j with
    | true =>
      rw [beq_eq, decide_eq_true_eq] at hb
      subst hb
      simp only [cond_true, Option.getD_some]
      exact h.1.symm
    | false => simp only [cond_false]; exact Holds.lk h.2 i
theorem canonF_eq {N : Nat} (hN : small N = true) {f : Fr} {live : List (Nat × Value)} (hn : f.n = N) (hd : f.ds = []) (hl : Holds f live) : FrEq f (canonF N live f) := by
  refine ⟨hn, hd, fun i hi => ?_, fun i hi => ?_⟩
  · have hi' : i < N := hi
    rw [canonF_get hN, if_pos hi', hl.lk]
  · have hi' : N ≤ i := hi
    rw [canonF_get hN, if_neg (Nat.not_lt.2 hi')]
/-- A loop in a block. 'D': what a round is told by; 'live': the slots that count; each round either goes on, or leaves by 'exit id'. -/
theorem LTup.readLoop {D : Type} {body : Code} {id N : Nat} (hN : small N = true) (h : AH) (μ : D → Nat) (I : D → Prop) (live : D → List (Nat × Value)) (fin : D → List (Nat × Value))
    (step : ∀ d f, I d → (∃ f1 d', LTup P gl body (canonF N (live d) f) h .normal f1 h ∧ f1.n = N ∧ f1.ds = [] ∧ Holds f1 (live d') ∧ I d' ∧ μ d' < μ d ∧ fin d' = fin d) ∨
      (∃ f1, LTup P gl body (canonF N (live d) f) h (.exit id) f1 h ∧ f1.n = N ∧ f1.ds = [] ∧ Holds f1 (fin d)))
    (d : D) (f : Fr) (hI : I d) (hn : f.n = N) (hd : f.ds = []) (hl : Holds f (live d)) :
    ∃ f1, LTup P gl (.block id (.loop body)) f h .normal f1 h ∧ f1.n = N ∧ f1.ds = [] ∧ Holds f1 (fin d) := by
  have key : ∀ m d f, μ d = m → I d → f.n = N → f.ds = [] → Holds f (live d) → ∃ k f1, RTup P gl body k f h (.exit id) f1 h ∧ f1.n = N ∧ f1.ds = [] ∧ Holds f1 (fin d) := by
    intro m
    induction m using Nat.strongRecOn with
    | ind m ih =>
      intro d f hm hI hn hd hl
      have he := canonF_eq hN hn hd hl
      rcases step d f hI with ⟨f1, d', t, n1, ds1, hl1, hI1, hμ, hfin⟩ | ⟨f1, t, n1, ds1, hl1⟩
      · obtain ⟨k, f2, r, n2, ds2, hl2⟩ := ih (μ d') (by omega) d' f1 rfl hI1 n1 ds1 hl1
        exact ⟨k + 1, f2, RTup.round (LTup.start he t) r, n2, ds2, hfin ▸ hl2⟩
      · exact ⟨1, f1, RTup.out (LTup.start he t) (by simp), n1, ds1, hl1⟩
  obtain ⟨k, f1, r, n1, ds1, hl1⟩ := key _ d f rfl hI hn hd hl
  exact ⟨f1, LTup.block r.loop, n1, ds1, hl1⟩
end
end Go.Ev
