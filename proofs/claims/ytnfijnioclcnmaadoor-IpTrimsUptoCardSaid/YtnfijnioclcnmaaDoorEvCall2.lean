/- Code: that the evaluator agrees with the machine. Holds for every program. -/
import Derived.Test.YtnfijnioclcnmaaDoorEvCall
namespace Go.Ev
open Go
section
variable {P : Program} {gl : Nat} {recF : RecF} {rec recC : RecC} {ev : OpEv}

theorem loop_sound (hr : CodeSound P gl rec) (c : Code) : ∀ (n : Nat) f h ex f' h', loopA rec c n f h = some (ex, f', h') → WF h → small f.n = true → (Ext h h' ∧ WF h' ∧ f'.n = f.n) ∧
    ∀ (κ : K) (G : Nat → Option AObj) (a : Act) (w : World) (n0 : Nat) (Q : Exit → Act → World → Prop), KG gl κ → Rel P κ G w → FrR κ f a → DfR P κ w n0 f.ds a.defers → n0 ≤ w.heap.size → Agree h h' G → Fresh h h' κ G →
      (∀ κ' ex' a' w', ExR κ' ex ex' → Rel P κ' (merge h h' G) w' → FrR κ' f' a' → DfR P κ' w' n0 f'.ds a'.defers → KX h h' κ κ' w w' → Q ex' a' w') → Code.rounds P c Q n a w := by
  intro n
  induction n with
  | zero => intro f h ex f' h' e; cases e
  | succ n ih =>
    intro f h ex f' h' e wf hsm
    simp only [loopA] at e
    have done : rec c f h = some (ex, f', h') → ex ≠ .normal → (Ext h h' ∧ WF h' ∧ f'.n = f.n) ∧
        ∀ (κ : K) (G : Nat → Option AObj) (a : Act) (w : World) (n0 : Nat) (Q : Exit → Act → World → Prop), KG gl κ → Rel P κ G w → FrR κ f a → DfR P κ w n0 f.ds a.defers → n0 ≤ w.heap.size → Agree h h' G → Fresh h h' κ G →
      (∀ κ' ex' a' w', ExR κ' ex ex' → Rel P κ' (merge h h' G) w' → FrR κ' f' a' → DfR P κ' w' n0 f'.ds a'.defers → KX h h' κ κ' w w' → Q ex' a' w') → Code.rounds P c Q (n + 1) a w := by
      intro e hn
      obtain ⟨h1, h2⟩ := hr _ _ _ _ _ _ e wf hsm
      refine ⟨h1, fun κ G a w n0 Q hg hrel hfr hdf hn0 hag hfs hq => ?_⟩
      rw [rounds_succ]
      exact h2 κ G a w n0 _ hg hrel hfr hdf hn0 hag hfs fun κ' ex' a' w' q0 q1 q2 q3 q4 => exit_then q0 hn (hq κ' ex' a' w' q0 q1 q2 q3 q4)
    split at e
    · rename_i f1 h1 hc
      obtain ⟨⟨x1, wf1, hn1⟩, s1⟩ := hr _ _ _ _ _ _ hc wf hsm
      obtain ⟨⟨x2, wf2, hn2⟩, s2⟩ := ih f1 h1 ex f' h' e wf1 (by rw [hn1]; exact hsm)
      refine ⟨⟨x1.trans x2, wf2, hn2.trans hn1⟩, fun κ G a w n0 Q hg hrel hfr hdf hn0 hag hfs hq => ?_⟩
      rw [rounds_succ]
      refine s1 κ G a w n0 _ hg hrel hfr hdf hn0 (hag.left x2) (hfs.left x2) fun κ1 ex1 a1 w1 q0 q1 q2 q3 q4 => ?_
      cases q0
      refine s2 κ1 _ a1 w1 n0 Q (hg.mono q4.le) q1 q2 q3 (Nat.le_trans hn0 (step_kx q4)) (hag.right x1) (hfs.right x1 q4 fun id _ hw => wf1.wr id hw) fun κ2 ex2 a2 w2 r0 r1 r2 r3 r4 => ?_
      exact hq κ2 ex2 a2 w2 r0 (by rw [merge_merge x1 x2] at r1; exact r1) r2 r3 (q4.trans x1 x2 r4)
    · rename_i hne
      refine done e ?_
      rintro rfl
      exact hne f' h' e

theorem scope_sound (hr : CodeSound P gl rec) (body : Code) : ∀ (n : Nat) cur f h ex f' h', scopeA rec body n cur f h = some (ex, f', h') → WF h → small f.n = true → (Ext h h' ∧ WF h' ∧ f'.n = f.n) ∧
    ∀ (κ : K) (G : Nat → Option AObj) (a : Act) (w : World) (n0 : Nat) (Q : Exit → Act → World → Prop), KG gl κ → Rel P κ G w → FrR κ f a → DfR P κ w n0 f.ds a.defers → n0 ≤ w.heap.size → Agree h h' G → Fresh h h' κ G →
      (∀ κ' ex' a' w', ExR κ' ex ex' → Rel P κ' (merge h h' G) w' → FrR κ' f' a' → DfR P κ' w' n0 f'.ds a'.defers → KX h h' κ κ' w w' → Q ex' a' w') →
      ∀ (b : Frame) (k : List Item) (cs : List Frame), ∃ e a' w', Q e a' w' ∧ Arrives P (lone (b.at a (.code cur :: .inScope body :: k)) cs w) b k cs e a' w' := by
  intro n
  induction n with
  | zero => intro cur f h ex f' h' e; cases e
  | succ n ih =>
    intro cur f h ex f' h' e wf hsm
    simp only [scopeA] at e
    split at e
    · rename_i l f1 h1 hc
      obtain ⟨⟨x1, wf1, hn1⟩, s1⟩ := hr _ _ _ _ _ _ hc wf hsm
      split at e
      · rename_i rest hf
        obtain ⟨⟨x2, wf2, hn2⟩, s2⟩ := ih rest f1 h1 ex f' h' e wf1 (by rw [hn1]; exact hsm)
        refine ⟨⟨x1.trans x2, wf2, hn2.trans hn1⟩, fun κ G a w n0 Q hg hrel hfr hdf hn0 hag hfs hq b k cs => ?_⟩
        have hgo : gotoIn l (.inScope body :: k) = some (.code rest :: .inScope body :: k) := by simp [gotoIn, hf]
        have := s1 κ G a w n0 (fun e a1 w1 => e = .goto l ∧ ∃ e2 a2 w2, Q e2 a2 w2 ∧ Arrives P (lone (b.at a1 (.code rest :: .inScope body :: k)) cs w1) b k cs e2 a2 w2) hg hrel hfr hdf hn0 (hag.left x2) (hfs.left x2) fun κ1 ex1 a1 w1 q0 q1 q2 q3 q4 => by
          cases q0
          exact ⟨rfl, s2 κ1 _ a1 w1 n0 Q (hg.mono q4.le) q1 q2 q3 (Nat.le_trans hn0 (step_kx q4)) (hag.right x1) (hfs.right x1 q4 fun id _ hw => wf1.wr id hw) (fun κ2 ex2 a2 w2 r0 r1 r2 r3 r4 =>
            hq κ2 ex2 a2 w2 r0 (by rw [merge_merge x1 x2] at r1; exact r1) r2 r3 (q4.trans x1 x2 r4)) b k cs⟩
        obtain ⟨e1, a1, w1, ⟨rfl, e2, a2, w2, hq2, harr2⟩, harr⟩ := this b (.inScope body :: k) cs
        exact ⟨e2, a2, w2, hq2, .of_steps (harr _ hgo) harr2⟩
      · rename_i hf
        cases e
        refine ⟨⟨x1, wf1, hn1⟩, fun κ G a w n0 Q hg hrel hfr hdf hn0 hag hfs hq b k cs => ?_⟩
        have := s1 κ G a w n0 (fun e a1 w1 => e = .goto l ∧ Q e a1 w1) hg hrel hfr hdf hn0 hag hfs fun κ1 ex1 a1 w1 q0 q1 q2 q3 q4 => by
          cases q0
          exact ⟨rfl, hq κ1 _ a1 w1 (.goto l) q1 q2 q3 q4⟩
        obtain ⟨e1, a1, w1, ⟨rfl, hq1⟩, harr⟩ := this b (.inScope body :: k) cs
        exact ⟨.goto l, a1, w1, hq1, fun k' hk => harr k' (by simp [gotoIn, hf, hk])⟩
    · rename_i hne
      obtain ⟨x1, s1⟩ := hr _ _ _ _ _ _ e wf hsm
      refine ⟨x1, fun κ G a w n0 Q hg hrel hfr hdf hn0 hag hfs hq b k cs => ?_⟩
      have := s1 κ G a w n0 (fun e a1 w1 => (∃ κ', ExR κ' ex e) ∧ Q e a1 w1) hg hrel hfr hdf hn0 hag hfs fun κ1 ex1 a1 w1 q0 q1 q2 q3 q4 => ⟨⟨κ1, q0⟩, hq κ1 ex1 a1 w1 q0 q1 q2 q3 q4⟩
      obtain ⟨e1, a1, w1, ⟨⟨κ1, hx⟩, hq1⟩, harr⟩ := this b (.inScope body :: k) cs
      refine ⟨e1, a1, w1, hq1, ?_⟩
      cases hx with
      | normal => exact Steps.trans harr (.one step_inScope)
      | exit id => exact fun k' hk => harr k' (by simp [exitTo, hk])
      | goto l => exact absurd e (hne l f' h')
      | ret => exact harr
      | panic _ => exact harr

theorem DfR.marks_lt {κ : K} {w : World} {n0 : Nat} {ds : List Dfr} {ds' : List Deferred} (h : DfR P κ w n0 ds ds') (D : Nat) (hD : w.heap.size ≤ D) : D ∉ marksOf ds' := by
  induction h with
  | nil => simp [marksOf]
  | mark h1 h2 _ _ _ ih =>
    have := (Array.getElem?_eq_some_iff.1 h2).1
    simp only [marksOf, markD, List.mem_cons, not_or]
    exact ⟨by omega, ih⟩
  | call _ _ _ ih => simpa [marksOf] using ih
theorem heap_alloc2 (w : World) (o o' : Obj) : ((w.alloc o).alloc o').heap[w.heap.size]? = some o ∧ ((w.alloc o).alloc o').heap[w.heap.size + 1]? = some o' ∧ (∀ k, k < w.heap.size → ((w.alloc o).alloc o').heap[k]? = w.heap[k]?) ∧ ((w.alloc o).alloc o').heap.size = w.heap.size + 2 := by
  show (((w.heap.push o).push o')[w.heap.size]? = some o ∧ ((w.heap.push o).push o')[w.heap.size + 1]? = some o' ∧ (∀ k, k < w.heap.size → ((w.heap.push o).push o')[k]? = w.heap[k]?) ∧ ((w.heap.push o).push o').size = w.heap.size + 2)
  refine ⟨?_, ?_, fun k hk => ?_, by simp⟩
  · rw [Array.getElem?_push, if_neg (by simp), Array.getElem?_push, if_pos rfl]
  · rw [Array.getElem?_push, if_pos (by simp)]
  · rw [Array.getElem?_push, if_neg (by simp; omega), Array.getElem?_push, if_neg (by omega)]

theorem rangeA_sound (hcf : CallSound P gl recF) {g : Operand} {ps : Array Tmp} {assign body : Code} {f : Fr} {h h' : AH} (e : rangeA P gl recF g f h = some h') (wf : WF h) : (Ext h h' ∧ WF h') ∧
    ∀ (κ : K) (G : Nat → Option AObj) (a : Act) (w : World) (n0 : Nat) (Q : Exit → Act → World → Prop), KG gl κ → Rel P κ G w → FrR κ f a → DfR P κ w n0 f.ds a.defers → n0 ≤ w.heap.size → Agree h h' G → Fresh h h' κ G →
      (∀ κ' a' w', Rel P κ' (merge h h' G) w' → FrR κ' f a' → DfR P κ' w' n0 (.mark :: f.ds) a'.defers → KX h h' κ κ' w w' → Q .normal a' w') → (Code.rangeFunc g ps assign body).wp P Q a w := by
  unfold rangeA at e
  cases hok : operandOk gl g with
  | false => rw [hok] at e; cases e
  | true =>
    rw [hok] at e
    simp only [cond_true] at e
    split at e
    · rename_i gf first captured hv
      cases hb : hasBody P gf with
      | false => rw [hb] at e; cases e
      | true =>
        rw [hb] at e
        simp only [cond_true] at e
        split at e
        · rename_i v h1 hc
          cases e
          obtain ⟨⟨x1, wf1⟩, s1⟩ := hcf gf _ h _ h' hc wf
          refine ⟨⟨x1, wf1⟩, fun κ G a w n0 Q hg hrel hfr hdf hn0 hag hfs hq b k cs => ?_⟩
          have hvr := eval_rel hg (x := g) (f := f) (a := a) (fun t _ => hfr.at_ t) hok
          rw [hv] at hvr
          generalize hv' : a.eval g = v' at hvr
          cases hvr with
          | func hnn hf1 hf2 =>
            rename_i first' captured'
            let b0 : Frame := { (default : Frame) with fn := b.fn, kind := b.kind, roundOf := none }
            have hat : ∀ (x : Act) (t : List Item), b.at x t = b0.atR x t := fun x t => by simp [Frame.at, Frame.atR, b0]
            let rec0 : Loop := { state := .ready, pending := none, fn := b.fn, tmps := a.tmps, params := ps, assign, body, defers := w.heap.size }
            let w1 : World := (w.alloc (.deferred (some []))).alloc (.loop rec0)
            obtain ⟨a1, a2, a3, a4⟩ := heap_alloc2 w (.deferred (some [])) (.loop rec0)
            have hent : (Instr.enterLoop b0.fn a.tmps ps assign body b0.roundOf).run P w = .ok (w.heap.size + 1, [{ target := .collected w.heap.size, args := #[] }]) w1 := by
              simp [Instr.enterLoop, b0, w1, rec0]
            have hinv : (invoke (.fn (.func gf) ⟨captured'⟩) ((⟨first'⟩ : Array Value) ++ #[.func (.yield (w.heap.size + 1)) #[] #[]])).run P w1 = .ok (.enter gf ((⟨first'⟩ : Array Value) ++ #[.func (.yield (w.heap.size + 1)) #[] #[]] ++ ⟨captured'⟩)) w1 := by
              simp only [invoke]
              exact run_callFunc hb _ _
            have hres : (resolve a.eval (rangeCall g (w.heap.size + 1)) 0).run P w1 = .ok { target := .fn (.func gf) ⟨captured'⟩, args := (⟨first'⟩ : Array Value) ++ #[.func (.yield (w.heap.size + 1)) #[] #[]] } w1 := by
              have hcst : a.eval (.const (.func (.yield (w.heap.size + 1)) #[] #[])) = .func (.yield (w.heap.size + 1)) #[] #[] := rfl
              simp [resolve, rangeCall, hv', Deferred.ofValue, hcst]
            have henter := stepR_rangeFunc (P := P) (b := b0) (a := a) (k := k) (cs := cs) (w := w) hent hres hinv
            have hrel1 : Rel P κ G w1 := ⟨fun id o e => let ⟨y, h1, h2⟩ := hrel.at_ id o e; ⟨y, h1, h2.heap (a3 _ h2.lt)⟩, hrel.one, fun id y hy => by
              have := hrel.old id y hy
              show y.blk < w1.heap.size
              rw [show w1.heap.size = w.heap.size + 2 from a4]; omega⟩
            have hargs : VL κ (first ++ [.func (.yield 0) ⟨[]⟩ ⟨[]⟩] ++ captured) ((⟨first'⟩ : Array Value) ++ #[Value.func (.yield (w.heap.size + 1)) #[] #[]] ++ (⟨captured'⟩ : Array Value)).toList := by
              simp only [Array.toList_append]
              exact (VL.append hf1 (.cons (.yield _) .nil)).append hf2
            obtain ⟨en, w2, fr, hR, hsteps, hfnn, hleave⟩ := s1 κ G _ w1 hg hrel1 hargs hag hfs (b0.atR { a with defers := [{ target := .collected w.heap.size, args := #[] }] ++ a.defers } (.inRangeFunc (w.heap.size + 1) :: k) :: cs)
            obtain ⟨κ', hen, hrel2, hkx⟩ := hR
            cases hen with
            | ret hvv =>
            rename_i v''
            have hnk : ∀ D, w.heap.size ≤ D → ∀ id y, κ id = some y → y.blk ≠ D := fun D hD id y hy e => by have := hrel.old id y hy; omega
            obtain ⟨d1, d2⟩ := kept hkx a1 (hnk _ (Nat.le_refl _))
            obtain ⟨l1, l2⟩ := kept hkx a2 (hnk _ (Nat.le_succ _))
            have hend : (Instr.endLoop (w.heap.size + 1)).run P w2 = .ok none { w2 with heap := w2.heap.setIfInBounds (w.heap.size + 1) (.loop { rec0 with state := .exhausted }) } := by
              have hl2 : w2.heap[w.heap.size + 1]? = some (.loop rec0) := l1
              exact run_endLoop (P := P) hl2 (by simp [rec0])
            let w3 : World := { w2 with heap := w2.heap.setIfInBounds (w.heap.size + 1) (.loop { rec0 with state := .exhausted }) }
            have hother : ∀ j, j ≠ w.heap.size + 1 → w3.heap[j]? = w2.heap[j]? := fun j hj => by
              show (w2.heap.setIfInBounds _ _)[j]? = _
              rw [Array.getElem?_setIfInBounds, if_neg (Ne.symm hj)]
            have hs3 : w3.heap.size = w2.heap.size := by show (w2.heap.setIfInBounds _ _).size = _; simp
            have sback : Steps P (lone (b.at a (.code (.rangeFunc g ps assign body) :: k)) cs w) (lone (b.at { a with defers := [{ target := .collected w.heap.size, args := #[] }] ++ a.defers } k) cs w3) := by
              rw [hat, hat]
              refine .head henter (Steps.trans hsteps (.head ?_ (.one (stepR_endRangeFunc hend))))
              rw [← finish_atR_inRangeFunc (w.heap.size + 1) v'']
              exact step_leave_returned hleave
            have hkx3 : KX h h' κ κ' w w3 := ⟨hkx.le, hkx.dom, fun id y hy => by
                rcases hkx.new id y hy with h | h | h
                · exact .inl h
                · have : w1.heap.size = w.heap.size + 2 := a4
                  exact .inr (.inl (by omega))
                · exact .inr (.inr h), fun j hj hn => by
                  have h12 : w1.heap.size = w.heap.size + 2 := a4
                  rw [hother j (by omega), hkx.keep j (by omega) hn, a3 j hj], ⟨hkx.same.os, hkx.same.tape, hkx.same.output, by
                  have h12 : w1.heap.size = w.heap.size + 2 := a4
                  have := hkx.same.size
                  rw [hs3]; omega⟩⟩
            have hdf' : DfR P κ' w3 n0 (.mark :: f.ds) (markD w.heap.size :: a.defers) := .mark hn0 (by rw [hother _ (by omega)]; exact d1) d2 (hdf.marks_lt _ (Nat.le_refl _)) (hdf.keep hkx3)
            have hq' := hq κ' { a with defers := [{ target := .collected w.heap.size, args := #[] }] ++ a.defers } w3
              ⟨fun id o e => let ⟨y, h1, h2⟩ := hrel2.at_ id o e; ⟨y, h1, h2.heap (hother _ (l2 id y h1))⟩, hrel2.one, fun id y hy => by rw [hs3]; exact hrel2.old id y hy⟩
              ⟨hfr.size, fun i => (hfr.at_ i).mono hkx.le⟩
              hdf' hkx3
            exact ⟨.normal, _, w3, hq', sback⟩
        · cases e
    · cases e

theorem stepC_sound (hm : P.follows .mixedOrders = true) (hs : OpSound P gl ev) (hcf : CallSound P gl recF) (hr : CodeSound P gl recC) : CodeSound P gl (stepC P gl ev recF recC) := by
  intro c f h ex f' h' e wf hsm
  have still : ∀ (x : AExit) (x' : Exit), ex = x → f' = f → h' = h → (∀ κ, ExR κ x x') → (∀ (Q : Exit → Act → World → Prop) (a : Act) (w : World), Q x' a w → c.wp P Q a w) → (Ext h h' ∧ WF h' ∧ f'.n = f.n) ∧
    ∀ (κ : K) (G : Nat → Option AObj) (a : Act) (w : World) (n0 : Nat) (Q : Exit → Act → World → Prop), KG gl κ → Rel P κ G w → FrR κ f a → DfR P κ w n0 f.ds a.defers → n0 ≤ w.heap.size → Agree h h' G → Fresh h h' κ G →
      (∀ κ' ex' a' w', ExR κ' ex ex' → Rel P κ' (merge h h' G) w' → FrR κ' f' a' → DfR P κ' w' n0 f'.ds a'.defers → KX h h' κ κ' w w' → Q ex' a' w') → c.wp P Q a w := by
    rintro x x' rfl rfl rfl hxr hwp
    refine ⟨⟨Ext.refl _, wf, rfl⟩, fun κ G a w n0 Q hg hrel hfr hdf hn0 hag hfs hq => hwp Q a w ?_⟩
    exact hq κ _ a w (hxr κ) (by rw [merge_self wf hag]; exact hrel) hfr hdf (KX.refl _ _ _)
  cases c with
  | skip => simp only [stepC, Option.some.injEq, Prod.mk.injEq] at e; exact still .normal .normal e.1.symm e.2.1.symm e.2.2.symm (fun _ => .normal) fun Q a w hq => wp_skip hq
  | label l => simp only [stepC, Option.some.injEq, Prod.mk.injEq] at e; exact still .normal .normal e.1.symm e.2.1.symm e.2.2.symm (fun _ => .normal) fun Q a w hq => wp_label hq
  | exit id => simp only [stepC, Option.some.injEq, Prod.mk.injEq] at e; exact still (.exit id) (.exit id) e.1.symm e.2.1.symm e.2.2.symm (fun _ => .exit id) fun Q a w hq => wp_exit hq
  | goto l => simp only [stepC, Option.some.injEq, Prod.mk.injEq] at e; exact still (.goto l) (.goto l) e.1.symm e.2.1.symm e.2.2.symm (fun _ => .goto l) fun Q a w hq => wp_goto hq
  | ret => simp only [stepC, Option.some.injEq, Prod.mk.injEq] at e; exact still .ret .ret e.1.symm e.2.1.symm e.2.2.symm (fun _ => .ret) fun Q a w hq => wp_ret hq
  | seq x y =>
    simp only [stepC] at e
    split at e
    · rename_i f1 h1 hc
      obtain ⟨⟨x1, wf1, hn1⟩, s1⟩ := hr _ _ _ _ _ _ hc wf hsm
      obtain ⟨⟨x2, wf2, hn2⟩, s2⟩ := hr _ _ _ _ _ _ e wf1 (by rw [hn1]; exact hsm)
      refine ⟨⟨x1.trans x2, wf2, hn2.trans hn1⟩, fun κ G a w n0 Q hg hrel hfr hdf hn0 hag hfs hq => wp_seq ?_⟩
      refine s1 κ G a w n0 _ hg hrel hfr hdf hn0 (hag.left x2) (hfs.left x2) fun κ1 ex1 a1 w1 q0 q1 q2 q3 q4 => ?_
      cases q0
      refine s2 κ1 _ a1 w1 n0 Q (hg.mono q4.le) q1 q2 q3 (Nat.le_trans hn0 (step_kx q4)) (hag.right x1) (hfs.right x1 q4 fun id _ hw => wf1.wr id hw) fun κ2 ex2 a2 w2 r0 r1 r2 r3 r4 => ?_
      exact hq κ2 ex2 a2 w2 r0 (by rw [merge_merge x1 x2] at r1; exact r1) r2 r3 (q4.trans x1 x2 r4)
    · rename_i hne
      obtain ⟨x1, s1⟩ := hr _ _ _ _ _ _ e wf hsm
      refine ⟨x1, fun κ G a w n0 Q hg hrel hfr hdf hn0 hag hfs hq => wp_seq ?_⟩
      refine s1 κ G a w n0 _ hg hrel hfr hdf hn0 hag hfs fun κ' ex' a' w' q0 q1 q2 q3 q4 => exit_then q0 ?_ (hq κ' ex' a' w' q0 q1 q2 q3 q4)
      rintro rfl
      exact hne f' h' e
  | cond c x y =>
    simp only [stepC] at e
    cases ho : operandOk gl c with
    | false => rw [ho] at e; cases e
    | true =>
      rw [ho] at e
      simp only [cond_true] at e
      have hev : ∀ {κ : K} {a : Act} {b : Bool}, KG gl κ → FrR κ f a → f.eval c = .bool b → a.eval c = .bool b := by
        intro κ a b hg hfr hb
        have := eval_rel hg (x := c) (f := f) (a := a) (fun t _ => hfr.at_ t) ho
        rw [hb] at this
        generalize a.eval c = v at this
        cases this; rfl
      split at e
      · rename_i hb
        obtain ⟨x1, s1⟩ := hr _ _ _ _ _ _ e wf hsm
        exact ⟨x1, fun κ G a w n0 Q hg hrel hfr hdf hn0 hag hfs hq => wp_cond_true (hev hg hfr hb) (s1 κ G a w n0 Q hg hrel hfr hdf hn0 hag hfs hq)⟩
      · rename_i hb
        obtain ⟨x1, s1⟩ := hr _ _ _ _ _ _ e wf hsm
        exact ⟨x1, fun κ G a w n0 Q hg hrel hfr hdf hn0 hag hfs hq => wp_cond_false (hev hg hfr hb) (s1 κ G a w n0 Q hg hrel hfr hdf hn0 hag hfs hq)⟩
      · cases e
  | block id c =>
    simp only [stepC] at e
    split at e
    · rename_i id' f1 h1 hc
      cases e
      obtain ⟨x1, s1⟩ := hr _ _ _ _ _ _ hc wf hsm
      refine ⟨x1, fun κ G a w n0 Q hg hrel hfr hdf hn0 hag hfs hq => wp_block ?_⟩
      refine s1 κ G a w n0 _ hg hrel hfr hdf hn0 hag hfs fun κ' ex' a' w' q0 q1 q2 q3 q4 => ?_
      cases q0
      show if id' = id then Q .normal a' w' else Q (.exit id') a' w'
      by_cases hid : id' = id
      · rw [if_pos hid]
        exact hq κ' .normal a' w' (by rw [beq_eq]; simp only [hid, decide_true, cond_true]; exact .normal) q1 q2 q3 q4
      · rw [if_neg hid]
        exact hq κ' (.exit id') a' w' (by rw [beq_eq]; simp only [hid, decide_false, cond_false]; exact .exit id') q1 q2 q3 q4
    · rename_i hne
      obtain ⟨x1, s1⟩ := hr _ _ _ _ _ _ e wf hsm
      refine ⟨x1, fun κ G a w n0 Q hg hrel hfr hdf hn0 hag hfs hq => wp_block ?_⟩
      refine s1 κ G a w n0 _ hg hrel hfr hdf hn0 hag hfs fun κ' ex' a' w' q0 q1 q2 q3 q4 => ?_
      have := hq κ' ex' a' w' q0 q1 q2 q3 q4
      cases q0 with
      | exit id' => exact absurd e (hne id' f' h')
      | _ => exact this
  | loop c =>
    have := loop_sound hr c rounds f h ex f' h' e wf hsm
    exact ⟨this.1, fun κ G a w n0 Q hg hrel hfr hdf hn0 hag hfs hq => wp_loop_rounds rounds (this.2 κ G a w n0 Q hg hrel hfr hdf hn0 hag hfs hq)⟩
  | scope body =>
    have := scope_sound hr body rounds body f h ex f' h' e wf hsm
    refine ⟨this.1, fun κ G a w n0 Q hg hrel hfr hdf hn0 hag hfs hq b k cs => ?_⟩
    obtain ⟨e, a', w', hq', harr⟩ := this.2 κ G a w n0 Q hg hrel hfr hdf hn0 hag hfs hq b k cs
    exact ⟨e, a', w', hq', .of_steps (.one step_scope) harr⟩
  | region id ops draw =>
    cases draw with
    | true =>
      simp only [stepC, cond_true] at e
      split at e
      · rename_i f1 h1 hrg
        cases e
        obtain ⟨x1, s1⟩ := region_sound hm hs (id := id) hrg wf hsm
        refine ⟨x1, fun κ G a w n0 Q hg hrel hfr hdf hn0 hag hfs hq => s1 κ G a w Q hg hrel hfr hag hfs fun κ' a' w' q1 q2 q3 q4 => hq κ' .normal a' w' .normal q1 ⟨q2.size, q2.at_⟩ (by rw [q3]; exact hdf.keep q4) q4⟩
      · cases e
    | false =>
      simp only [stepC, cond_false] at e
      obtain ⟨x1, s1⟩ := runA_sound hs hcf _ _ _ _ _ _ e wf hsm
      exact ⟨x1, fun κ G a w n0 Q hg hrel hfr hdf hn0 hag hfs hq => wp_region (s1 κ G a w n0 Q hg hrel hfr hdf hn0 hag hfs hq)⟩
  | rangeFunc g ps assign body =>
    simp only [stepC] at e
    split at e
    · rename_i h1 hra
      cases e
      obtain ⟨x1, s1⟩ := rangeA_sound hcf (ps := ps) (assign := assign) (body := body) hra wf
      exact ⟨⟨x1.1, x1.2, rfl⟩, fun κ G a w n0 Q hg hrel hfr hdf hn0 hag hfs hq => s1 κ G a w n0 Q hg hrel hfr hdf hn0 hag hfs fun κ' a' w' q1 q2 q3 q4 => hq κ' .normal a' w' .normal q1 ⟨q2.size, q2.at_⟩ q3 q4⟩
    · cases e
  | refuse => cases e
end
end Go.Ev
