/- Loops by goto; from a function's code to its call. Holds for every program. -/
import Derived.Test.YtnfijnioclcnmaaDoorSxRow
namespace Go.Ev
open Go Go.RowKit

section
variable {P : Program} {gl : Nat}
abbrev STup (P : Program) (gl : Nat) (body cur : Code) (f : Fr) (h : AH) (ex : AExit) (f' : Fr) (h' : AH) : Prop := Tup P gl f h ex f' h' fun Q a w =>
  ∀ (b : Frame) (k : List Item) (cs : List Frame), ∃ e a' w', Q e a' w' ∧ Arrives P (lone (b.at a (.code cur :: .inScope body :: k)) cs w) b k cs e a' w'
theorem STup.goto {body cur rest : Code} {l : Nat} {f f1 f2 : Fr} {h h1 h2 : AH} {ex : AExit} (hf : findLabel body l = some rest) (t : LTup P gl cur f h (.goto l) f1 h1) (r : STup P gl body rest f1 h1 ex f2 h2) : STup P gl body cur f h ex f2 h2 := by
  intro wf hsm
  obtain ⟨⟨x1, wf1, hn1⟩, s1⟩ := t wf hsm
  obtain ⟨⟨x2, wf2, hn2⟩, s2⟩ := r wf1 (by rw [hn1]; exact hsm)
  refine ⟨⟨x1.trans x2, wf2, hn2.trans hn1⟩, fun κ G a w n0 Q hg hrel hfr hdf hn0 hag hfs hq b k cs => ?_⟩
  have hgo : gotoIn l (.inScope body :: k) = some (.code rest :: .inScope body :: k) := by simp [gotoIn, hf]
  have := s1 κ G a w n0 (fun e a1 w1 => e = .goto l ∧ ∃ e2 a2 w2, Q e2 a2 w2 ∧ Arrives P (lone (b.at a1 (.code rest :: .inScope body :: k)) cs w1) b k cs e2 a2 w2) hg hrel hfr hdf hn0 (hag.left x2) (hfs.left x2) fun κ1 ex1 a1 w1 q0 q1 q2 q3 q4 => by
    cases q0
    exact ⟨rfl, s2 κ1 _ a1 w1 n0 Q (hg.mono q4.le) q1 q2 q3 (Nat.le_trans hn0 (step_kx q4)) (hag.right x1) (hfs.right x1 q4 fun id _ hw => wf1.wr id hw) (fun κ2 ex2 a2 w2 r0 r1 r2 r3 r4 =>
      hq κ2 ex2 a2 w2 r0 (by rw [merge_merge x1 x2] at r1; exact r1) r2 r3 (q4.trans x1 x2 r4)) b k cs⟩
  obtain ⟨e1, a1, w1, ⟨rfl, e2, a2, w2, hq2, harr2⟩, harr⟩ := this b (.inScope body :: k) cs
  exact ⟨e2, a2, w2, hq2, .of_steps (harr _ hgo) harr2⟩
theorem STup.ret {body cur : Code} {f f1 : Fr} {h h1 : AH} (t : LTup P gl cur f h .ret f1 h1) : STup P gl body cur f h .ret f1 h1 := by
  intro wf hsm
  obtain ⟨x1, s1⟩ := t wf hsm
  refine ⟨x1, fun κ G a w n0 Q hg hrel hfr hdf hn0 hag hfs hq b k cs => ?_⟩
  have := s1 κ G a w n0 (fun e a1 w1 => e = .ret ∧ Q e a1 w1) hg hrel hfr hdf hn0 hag hfs fun κ1 ex1 a1 w1 q0 q1 q2 q3 q4 => by
    cases q0
    exact ⟨rfl, hq κ1 .ret a1 w1 .ret q1 q2 q3 q4⟩
  obtain ⟨e1, a1, w1, ⟨rfl, hq1⟩, harr⟩ := this b (.inScope body :: k) cs
  exact ⟨.ret, a1, w1, hq1, harr⟩
theorem STup.scope {body : Code} {f f1 : Fr} {h h1 : AH} {ex : AExit} (t : STup P gl body body f h ex f1 h1) : LTup P gl (.scope body) f h ex f1 h1 := by
  intro wf hsm
  obtain ⟨x1, s1⟩ := t wf hsm
  refine ⟨x1, fun κ G a w n0 Q hg hrel hfr hdf hn0 hag hfs hq b k cs => ?_⟩
  obtain ⟨e, a', w', hq', harr⟩ := s1 κ G a w n0 Q hg hrel hfr hdf hn0 hag hfs hq b k cs
  exact ⟨e, a', w', hq', .of_steps (.one step_scope) harr⟩
theorem LTup.seq {a b : Code} {f f1 f2 : Fr} {h h1 h2 : AH} {ex : AExit} (t : LTup P gl a f h .normal f1 h1) (r : LTup P gl b f1 h1 ex f2 h2) : LTup P gl (.seq a b) f h ex f2 h2 := by
  intro wf hsm
  obtain ⟨⟨x1, wf1, hn1⟩, s1⟩ := t wf hsm
  obtain ⟨⟨x2, wf2, hn2⟩, s2⟩ := r wf1 (by rw [hn1]; exact hsm)
  refine ⟨⟨x1.trans x2, wf2, hn2.trans hn1⟩, fun κ G a w n0 Q hg hrel hfr hdf hn0 hag hfs hq => wp_seq ?_⟩
  refine s1 κ G a w n0 _ hg hrel hfr hdf hn0 (hag.left x2) (hfs.left x2) fun κ1 ex1 a1 w1 q0 q1 q2 q3 q4 => ?_
  cases q0
  refine s2 κ1 _ a1 w1 n0 Q (hg.mono q4.le) q1 q2 q3 (Nat.le_trans hn0 (step_kx q4)) (hag.right x1) (hfs.right x1 q4 fun id _ hw => wf1.wr id hw) fun κ2 ex2 a2 w2 r0 r1 r2 r3 r4 => ?_
  exact hq κ2 ex2 a2 w2 r0 (by rw [merge_merge x1 x2] at r1; exact r1) r2 r3 (q4.trans x1 x2 r4)
open Classical in
/-- From a function's code to its call. -/
theorem CTup.of_body {g : FuncId} {fn : Func} {c : Code} {args : List Value} {h h1 h2 : AH} {f1 : Fr} {en : AEnd} (hfn : P.funcs[g]? = some fn) (hb : fn.body = some c) (hs : small (args.length + (fn.ntmps - args.length)) = true)
    (t : LTup P gl c { t := ofArgs args 0 .nil, n := args.length + (fn.ntmps - args.length) } h .ret f1 h1) (hl : leaveA P (fun _ _ _ _ => none) fn f1.get f1.ds .ret h1 = some (en, h2)) : CTup P gl g args h en h2 := by
  let rec' : RecC := fun c' f' h' => if c' = c ∧ f' = { t := ofArgs args 0 .nil, n := args.length + (fn.ntmps - args.length) } ∧ h' = h then some (.ret, f1, h1) else none
  have hr : CodeSound P gl rec' := by
    intro c' f' h' ex f2 h3 e wf hsm
    simp only [rec'] at e
    split at e
    · rename_i hc
      obtain ⟨rfl, rfl, rfl⟩ := hc
      cases e
      exact t wf hsm
    · cases e
  have hd : DeferSound P gl (fun _ _ _ _ => none) := fun _ _ _ _ _ _ e => by cases e
  have e : stepF P rec' (fun _ _ _ _ => none) g args h = some (en, h2) := by
    unfold stepF
    rw [hfn]
    simp only []
    rw [hb]
    simp only [hs, cond_true]
    have : rec' c { t := ofArgs args 0 .nil, n := args.length + (fn.ntmps - args.length) } h = some (.ret, f1, h1) := if_pos ⟨rfl, rfl, rfl⟩
    rw [this]
    exact hl
  exact (stepF_sound hr hd).tup e

/-- A loop by goto. 'hp': the heap at the label; each round goes on or ends in 'return'. -/
theorem STup.gotoLoop {D : Type} {body rest : Code} {l N : Nat} (hN : small N = true) (hf : findLabel body l = some rest) (μ : D → Nat) (I : D → Prop) (live : D → List (Nat × Value)) (hp : D → AH) (fin : D → List (Nat × Value)) (hfin : D → AH)
    (step : ∀ d f, I d → (∃ f1 d', LTup P gl rest (canonF N (live d) f) (hp d) (.goto l) f1 (hp d') ∧ f1.n = N ∧ f1.ds = [] ∧ Holds f1 (live d') ∧ I d' ∧ μ d' < μ d ∧ fin d' = fin d ∧ hfin d' = hfin d) ∨
      (∃ f1, LTup P gl rest (canonF N (live d) f) (hp d) .ret f1 (hfin d) ∧ f1.n = N ∧ f1.ds = [] ∧ Holds f1 (fin d)))
    (d : D) (f : Fr) (hI : I d) (hn : f.n = N) (hd : f.ds = []) (hl : Holds f (live d)) :
    ∃ f1, STup P gl body rest f (hp d) .ret f1 (hfin d) ∧ f1.n = N ∧ f1.ds = [] ∧ Holds f1 (fin d) := by
  have key : ∀ m d f, μ d = m → I d → f.n = N → f.ds = [] → Holds f (live d) → ∃ f1, STup P gl body rest f (hp d) .ret f1 (hfin d) ∧ f1.n = N ∧ f1.ds = [] ∧ Holds f1 (fin d) := by
    intro m
    induction m using Nat.strongRecOn with
    | ind m ih =>
      intro d f hm hI hn hd hl
      have he := canonF_eq hN hn hd hl
      rcases step d f hI with ⟨f1, d', t, n1, ds1, hl1, hI1, hμ, hfe, hhe⟩ | ⟨f1, t, n1, ds1, hl1⟩
      · obtain ⟨f2, r, n2, ds2, hl2⟩ := ih (μ d') (by omega) d' f1 rfl hI1 n1 ds1 hl1
        rw [hhe] at r
        exact ⟨f2, STup.goto hf (LTup.start he t) r, n2, ds2, hfe ▸ hl2⟩
      · exact ⟨f1, STup.ret (LTup.start he t), n1, ds1, hl1⟩
  exact key _ d f rfl hI hn hd hl
/-! ### heaps that hold the same -/

structure HpEq (h g : AH) : Prop where
  n : h.n = g.n
  rd : h.rd = g.rd
  wr : h.wr = g.wr
  at_ : ∀ i, i < g.n → h.get i = g.get i
theorem HpEq.get {h g : AH} (e : HpEq h g) (wh : WF h) (wg : WF g) (i : Nat) : h.get i = g.get i := by
  by_cases hi : i < g.n
  · exact e.at_ i hi
  · have h1 : h.get i = none := by
      cases hq : h.get i with
      | none => rfl
      | some o => have := wh.dom i o hq; rw [e.n] at this; exact absurd this hi
    have h2 : g.get i = none := by
      cases hq : g.get i with
      | none => rfl
      | some o => exact absurd (wg.dom i o hq) hi
    rw [h1, h2]
theorem LTup.heap_end {c : Code} {f f1 : Fr} {h h1 g1 : AH} {ex : AExit} (e : HpEq h1 g1) (wg : WF g1) (t : LTup P gl c f h ex f1 h1) : LTup P gl c f h ex f1 g1 := by
  intro wf hs
  obtain ⟨⟨x, wh, hn⟩, s⟩ := t wf hs
  have hget := e.get wh wg
  refine ⟨⟨⟨by rw [← e.n]; exact x.n, fun i hi => by rw [← e.rd]; exact x.rd i hi, fun i hi => by rw [← e.wr]; exact x.wr i hi, fun i hi hw => by rw [← hget]; exact x.same i hi (by rw [e.wr]; exact hw)⟩, wg, hn⟩, fun κ G a w n0 Q hg hrel hfr hdf hn0 hag hfs hq => ?_⟩
  have hmg : merge h h1 G = merge h g1 G := by funext i; unfold merge; rw [e.n, e.wr, hget]
  refine s κ G a w n0 Q hg hrel hfr hdf hn0 (fun i hi ht => hag i hi (by unfold AH.touched at ht ⊢; rw [← e.rd, ← e.wr]; exact ht)) (fun i hi hi' => hfs i hi (by rw [← e.n]; exact hi')) fun κ' ex' a' w' q0 q1 q2 q3 q4 => ?_
  exact hq κ' ex' a' w' q0 (hmg ▸ q1) q2 q3 ⟨q4.le, fun id hn => q4.dom id (by rw [e.n]; exact hn), fun id b hb => by
    rcases q4.new id b hb with h | h | ⟨i, c, h1, h2, h3⟩
    · exact .inl h
    · exact .inr (.inl h)
    · exact .inr (.inr ⟨i, c, h1, h2, by rw [← e.wr]; exact h3⟩), fun k hk hn => q4.keep k hk fun id b hb hbk => by rw [e.wr]; exact hn id b hb hbk, q4.same⟩
/-- A round of a loop: how it leaves, what the slots hold, what the heap holds. -/
def roundOutH (slots ids : List Nat) : PO (AExit × Fr × AH) → Option (AExit × List Value × Nat × (Nat × Nat × Nat) × List (Option AObj) × List Prop)
  | some ((ex, f, h), ps) => match f.ds with
    | [] => some (ex, slots.map f.get, f.n, (h.n, h.rd, h.wr), ids.map h.get, ps)
    | _ => none
  | none => none
theorem round_tupH (hz : zerosFlat P = true) (hm : P.follows .mixedOrders = true) {H : Hints} (hH : H.Ok P 0) {k : Nat} {g : FuncId} {c : Code} {f : Fr} {h : AH} {ex : AExit} {slots ids : List Nat} {vs : List Value} {N : Nat} {m : Nat × Nat × Nat} {os : List (Option AObj)} {ps : List Prop}
    (er : roundOutH slots ids ((runHR P 0 H k).1 g c f h) = some (ex, vs, N, m, os, ps)) (hp : All ps) {g1 : AH} (wg : WF g1) (hm1 : (g1.n, g1.rd, g1.wr) = m) (hids : ids = List.range g1.n) (hos : os = ids.map g1.get) : ∃ f1, LTup P 0 c f h ex f1 g1 ∧ f1.n = N ∧ f1.ds = [] ∧ Holds f1 (slots.zip vs) := by
  unfold roundOutH at er
  split at er
  · rename_i ex0 f0 h0 qs he
    split at er
    · rename_i hd
      simp only [Option.some.injEq, Prod.mk.injEq] at er
      obtain ⟨rfl, rfl, rfl, rfl, rfl, rfl⟩ := er
      simp only [Prod.mk.injEq] at hm1
      have heq : HpEq h0 g1 := by
        refine ⟨hm1.1.symm, hm1.2.1.symm, hm1.2.2.symm, fun i hi => ?_⟩
        have := congrArg (fun l => l[i]?) hos
        simpa [hids, hi] using this
      refine ⟨f0, LTup.heap_end heq wg (runHR_code hz hm hH he hp), rfl, hd, ?_⟩
      clear he hp hd hos heq
      induction slots with
      | nil => trivial
      | cons s l ih => exact ⟨rfl, ih⟩
    · cases er
  · cases er
end
end Go.Ev
