/- Calls, regions, code and functions: that the evaluator agrees with the machine. Holds for every program. -/
import Derived.Test.YtgniedijgbaheaaDoorEvAll
import Derived.RangeFuncLeaves
import Derived.RangeFuncRecord
import Derived.AtR
namespace Go.Ev
open Go
section
variable {P : Program} {gl : Nat} {recF : RecF} {recC : RecC} {ev ev' : OpEv}

theorem vl_map {κ : K} {ρ ρ' : Operand → Value} {l : List Operand} (h : ∀ x ∈ l, VR κ (ρ x) (ρ' x)) : VL κ (l.map ρ) (l.map ρ') := by
  induction l with
  | nil => exact .nil
  | cons x l ih => exact .cons (h x (by simp)) (ih fun y hy => h y (by simp [hy]))

theorem calleeA_sound {f : Fr} {o : Oper} {c : Call} (ho : o.op = .call c) {g : FuncId} {args : List Value} (e : calleeA P f.eval c = some (g, args)) {κ : K} {a : Act} (hρ : ∀ x ∈ o.op.operands, VR κ (f.eval x) (a.eval x)) (w : World) :
    ∃ args', (execOp a.eval o).run P w = .ok (.enter g args') w ∧ VL κ args args'.toList := by
  have hargs : VL κ (c.args.toList.map f.eval) (c.args.toList.map a.eval) := vl_map fun x hx => hρ x (by rw [ho]; simp [Op.operands, Call.operands]; exact Or.inr (by simpa using hx))
  unfold calleeA at e
  split at e
  · cases e
  · rename_i recv name hc
    have hr : VR κ (f.eval recv) (a.eval recv) := hρ recv (by rw [ho]; simp [Op.operands, Call.operands, hc])
    split at e
    · rename_i t v hv
      split at e
      · rename_i g' hm
        cases hb : hasBody P g' with
        | false => rw [hb] at e; cases e
        | true =>
          rw [hb] at e
          cases e
          rw [hv] at hr
          generalize hv' : a.eval recv = rv' at hr
          cases hr with
          | iface hvr =>
            rename_i v'
            refine ⟨#[v'] ++ c.args.map a.eval, ?_, by simpa using VL.cons hvr hargs⟩
            have hd : ∀ n, (method (n + 1) t v' name).run P w = .ok (g, v') w := fun n => run_method hm n v' w
            have hpos : 0 < Made.depth := by decide
            have hdep : ∃ n, P.types.size + Made.depth = n + 1 := ⟨P.types.size + Made.depth - 1, by omega⟩
            obtain ⟨n, hn⟩ := hdep
            have e0 : ∀ l : Array Value, ((#[Value.iface t v'] : Array Value) ++ l)[0]? = some (Value.iface t v') := fun l => by rw [Array.getElem?_append_left (by simp)]; rfl
            have e1 : (c.args.map a.eval).extract 0 c.args.size = c.args.map a.eval := by rw [show c.args.size = (c.args.map a.eval).size by simp]; exact Array.extract_size
            simp [execOp, ho, resolve, hc, invoke, callMethod, hv', e0, e1, hn, hd, run_callFunc hb]
      · cases e
    · cases e
  · rename_i x hc
    have hr : VR κ (f.eval x) (a.eval x) := hρ x (by rw [ho]; simp [Op.operands, Call.operands, hc])
    split at e
    · rename_i g' first captured hv
      cases hb : hasBody P g' with
      | false => rw [hb] at e; cases e
      | true =>
        rw [hb] at e
        cases e
        rw [hv] at hr
        generalize hv' : a.eval x = rv' at hr
        cases hr with
        | func hfn h1 h2 =>
          rename_i first' captured'
          refine ⟨(⟨first'⟩ : Array Value) ++ c.args.map a.eval ++ (⟨captured'⟩ : Array Value), ?_, ?_⟩
          · simp [execOp, ho, resolve, hc, invoke, hv', Deferred.ofValue, run_callFunc hb]
          · simpa using (VL.append h1 hargs).append h2
    · cases e

theorem aop_sound (hz : ZerosFlat P) (hr : CallSound P gl recF) : OpSound P gl (aop P gl recF) := by
  intro f o h v h' e wf
  have conv : OpAt P gl f o h v h' → (o.op.operands.toList.all (operandOk gl) = true) → (Ext h h' ∧ WF h') ∧
    ∀ (κ : K) (G : Nat → Option AObj) (a : Act) (w : World) (K' : Act → World → Prop) (Q : Exit → Act → World → Prop), KG gl κ → Rel P κ G w → Agree h h' G → Fresh h h' κ G →
      (∀ t, Operand.tmp t ∈ o.op.operands → VR κ (f.get t) (a.tmps.getD t undef)) →
      (∀ κ' v' w', VR κ' v v' → Rel P κ' (merge h h' G) w' → KX h h' κ κ' w w' → K' (a.put o.dst v') w') → o.wp P a w K' Q := by
    intro hat hall
    refine ⟨hat.1, fun κ G a w K' Q hg hrel hag hfs ht hk => hat.2 κ G a w K' Q hg hrel hag hfs (fun x hx => ?_) hk⟩
    exact eval_rel hg (fun t hxt => ht t (hxt ▸ hx)) (List.all_eq_true.1 hall x (by simpa using hx))
  unfold aop at e
  cases hall : o.op.operands.toList.all (operandOk gl) with
  | false => rw [hall] at e; cases e
  | true =>
    rw [hall] at e
    simp only [cond_true] at e
    refine conv ?_ hall
    split at e
    · rename_i c ho
      have hs : ∀ cs b, o.op ≠ .select cs b := fun cs b h => by rw [ho] at h; cases h
      split at e
      · rename_i hc; exact appendA_sound ho hc e wf
      · exact plainA_sound hz e hs wf
      · split at e
        · rename_i g args hcal
          have := hr g args h v h' e wf
          refine ⟨this.1, fun κ G a w K' Q hg hrel hag hfs hρ hk => ?_⟩
          obtain ⟨args', hrun, hvl⟩ := calleeA_sound ho hcal hρ w
          unfold Oper.wp
          rw [hrun, Oper.upon_enter]
          refine (this.2 κ G args' w hg hrel hvl hag hfs).mono fun en w' hen => ?_
          obtain ⟨κ', v', rfl, q1, q2, q3⟩ := hen
          exact hk κ' v' w' q1 q2 q3
        · exact flatA_sound e hs wf
    · cases e
    · rename_i hns; exact plainA_sound hz e (fun cs b h => hns cs b h) wf

def orEv (a b : OpEv) : OpEv := fun f o h => match a f o h with
  | some r => some r
  | none => b f o h
theorem OpSound.or {a b : OpEv} (ha : OpSound P gl a) (hb : OpSound P gl b) : OpSound P gl (orEv a b) := by
  intro f o h v h' e wf
  unfold orEv at e
  split at e
  · rename_i r hr; cases e; exact ha f o h v h' hr wf
  · exact hb f o h v h' e wf

theorem region_sound (hm : P.follows .mixedOrders = true) (hs : OpSound P gl ev) {id : Nat} {ops : Array Oper} {draw : Bool} {f : Fr} {h : AH} {f' : Fr} {h' : AH} (e : region ev ops draw f h = some (f', h')) (wf : WF h) (hsm : small f.n = true) :
    (Ext h h' ∧ WF h' ∧ f'.n = f.n) ∧
    ∀ (κ : K) (G : Nat → Option AObj) (a : Act) (w : World) (Q : Exit → Act → World → Prop), KG gl κ → Rel P κ G w → FrR κ f a → Agree h h' G → Fresh h h' κ G →
      (∀ κ' a' w', Rel P κ' (merge h h' G) w' → FrR κ' f' a' → a'.defers = a.defers → KX h h' κ κ' w w' → Q .normal a' w') → (Code.region id ops draw).wp P Q a w := by
  unfold region at e
  cases draw with
  | false =>
    simp only [cond_false] at e
    have := runOps_sound hs _ _ _ _ _ e wf hsm
    exact ⟨this.1, fun κ G a w Q hg hrel hfr hag hfs hq => wp_region (this.2 κ G a w Q hg hrel hfr hag hfs hq)⟩
  | true =>
    simp only [cond_true] at e
    split at e
    · rename_i pl hpl
      split at e
      · rename_i f1 h1 l hd
        cases hc : (drawOk pl l && Region.noSelect ops) with
        | false => rw [hc] at e; cases e
        | true =>
          rw [hc] at e
          cases e
          simp only [Bool.and_eq_true] at hc
          obtain ⟨r1, r2⟩ := region_draw hs hpl hd hc.1 wf hsm
          refine ⟨r1, fun κ G a w Q hg hrel hfr hag hfs hq => wp_region_any hm ?_⟩
          refine r2 κ G a w.drew Q hg (rel_drew hrel) hfr hag hfs fun κ' a' w' q1 q2 q3 q4 => hq κ' a' w' q1 q2 q3 ?_
          exact ⟨q4.le, q4.dom, q4.new, q4.keep, q4.same.os, q4.same.tape, q4.same.output, q4.same.size⟩
      · cases e
    · cases e

/-! ### a range over a function that comes to its end without a round -/

theorem heap_alloc2 (w : World) (o o' : Obj) : ((w.alloc o).alloc o').heap[w.heap.size]? = some o ∧ ((w.alloc o).alloc o').heap[w.heap.size + 1]? = some o' ∧ (∀ k, k < w.heap.size → ((w.alloc o).alloc o').heap[k]? = w.heap[k]?) ∧ ((w.alloc o).alloc o').heap.size = w.heap.size + 2 := by
  show (((w.heap.push o).push o')[w.heap.size]? = some o ∧ ((w.heap.push o).push o')[w.heap.size + 1]? = some o' ∧ (∀ k, k < w.heap.size → ((w.heap.push o).push o')[k]? = w.heap[k]?) ∧ ((w.heap.push o).push o').size = w.heap.size + 2)
  refine ⟨?_, ?_, fun k hk => ?_, by simp⟩
  · rw [Array.getElem?_push, if_neg (by simp), Array.getElem?_push, if_pos rfl]
  · rw [Array.getElem?_push, if_pos (by simp)]
  · rw [Array.getElem?_push, if_neg (by simp; omega), Array.getElem?_push, if_neg (by omega)]

theorem rangeA_sound (hcf : CallSound P gl recF) {g : Operand} {ps : Array Tmp} {assign body : Code} {f : Fr} {h h' : AH} (e : rangeA P gl recF g f h = some h') (wf : WF h) : (Ext h h' ∧ WF h' ∧ f.n = f.n) ∧
    ∀ (κ : K) (G : Nat → Option AObj) (a : Act) (w : World) (Q : Exit → Act → World → Prop), KG gl κ → Rel P κ G w → FrR κ f a → Agree h h' G → Fresh h h' κ G →
      (∀ κ' a' w', Rel P κ' (merge h h' G) w' → FrR κ' f a' → DefR κ' w w' a.defers a'.defers → KX h h' κ κ' w w' → Q AExit.normal.to a' w') → (Code.rangeFunc g ps assign body).wp P Q a w := by
  unfold rangeA at e
  cases hok : operandOk gl g with
  | false => rw [hok] at e; cases e
  | true =>
    rw [hok] at e
    simp only [cond_true] at e
    split at e
    · rename_i gf first captured hv
      split at e
      · cases e
      rename_i fn hfn
      cases hq : (fn.body.isSome && !(fn.name == "runtime.NumGoroutine")) with
      | false => rw [hq] at e; cases e
      | true =>
        have hb : hasBody P gf = true := by unfold hasBody; rw [hfn]; exact hq
        rw [hq] at e
        simp only [cond_true] at e
        split at e
        · rename_i v h1 hc
          cases e
          obtain ⟨⟨x1, wf1⟩, s1⟩ := hcf gf _ h v h' hc wf
          refine ⟨⟨x1, wf1, rfl⟩, fun κ G a w Q hg hrel hfr hag hfs hq b k cs => ?_⟩
          have hvr := eval_rel hg (x := g) (f := f) (a := a) (fun t _ => hfr.at_ t) hok
          rw [hv] at hvr
          generalize hv' : a.eval g = v' at hvr
          cases hvr with
          | func hnn hf1 hf2 =>
            rename_i first' captured'
            let b0 : Frame := { (default : Frame) with fn := b.fn, kind := b.kind, roundOf := none }
            have hat : ∀ (x : Act) (t : List Item), b.at x t = b0.atR x t := fun x t => by simp [Frame.at, Frame.atR, b0]
            let rec0 : Loop := { state := .ready, pending := none, fn := b.fn, tmps := a.tmps, params := ps, assign, body, defers := w.heap.size }
            let w1 : World := (w.alloc (.deferred (some []))).alloc (.loop rec0)
            obtain ⟨a1, a2, a3, a4⟩ := heap_alloc2 w (.deferred (some [])) (.loop rec0)
            have hent : (Instr.enterLoop b0.fn a.tmps ps assign body b0.roundOf).run P w = .ok (w.heap.size + 1, [{ target := .collected w.heap.size, args := #[] }]) w1 := by
              simp [Instr.enterLoop, b0, w1, rec0]
            have hinv : (invoke (.fn (.func gf) ⟨captured'⟩) ((⟨first'⟩ : Array Value) ++ #[.func (.yield (w.heap.size + 1)) #[] #[]])).run P w1 = .ok (.enter gf ((⟨first'⟩ : Array Value) ++ #[.func (.yield (w.heap.size + 1)) #[] #[]] ++ ⟨captured'⟩)) w1 := by
              simp only [invoke]
              exact run_callFunc hb _ _
            have hres : (resolve a.eval (rangeCall g (w.heap.size + 1)) 0).run P w1 = .ok { target := .fn (.func gf) ⟨captured'⟩, args := (⟨first'⟩ : Array Value) ++ #[.func (.yield (w.heap.size + 1)) #[] #[]] } w1 := by
              have hcst : a.eval (.const (.func (.yield (w.heap.size + 1)) #[] #[])) = .func (.yield (w.heap.size + 1)) #[] #[] := rfl
              simp [resolve, rangeCall, hv', Deferred.ofValue, hcst]
            have henter := stepR_rangeFunc (P := P) (b := b0) (a := a) (k := k) (cs := cs) (w := w) hent hres hinv
            have hrel1 : Rel P κ G w1 := ⟨fun id o e => let ⟨y, h1, h2⟩ := hrel.at_ id o e; ⟨y, h1, h2.heap (a3 _ h2.lt)⟩, hrel.one, fun id y hy => by
              have := hrel.old id y hy
              show y.blk < w1.heap.size
              rw [show w1.heap.size = w.heap.size + 2 from a4]; omega⟩
            have hargs : VL κ (first ++ [.func (.yield 0) ⟨[]⟩ ⟨[]⟩] ++ captured) ((⟨first'⟩ : Array Value) ++ #[Value.func (.yield (w.heap.size + 1)) #[] #[]] ++ (⟨captured'⟩ : Array Value)).toList := by
              simp only [Array.toList_append]
              exact (VL.append hf1 (.cons (.yield _) .nil)).append hf2
            obtain ⟨en, w2, fr, hR, hsteps, hfnn, hleave⟩ := s1 κ G _ w1 hg hrel1 hargs hag hfs (b0.atR { a with defers := [{ target := .collected w.heap.size, args := #[] }] ++ a.defers } (.inRangeFunc (w.heap.size + 1) :: k) :: cs)
            obtain ⟨κ', v'', rfl, hvv, hrel2, hkx⟩ := hR
            have hnk : ∀ D, w.heap.size ≤ D → ∀ id y, κ id = some y → y.blk ≠ D := fun D hD id y hy e => by have := hrel.old id y hy; omega
            obtain ⟨d1, d2⟩ := DefR.keep hkx a1 (hnk _ (Nat.le_refl _))
            obtain ⟨l1, l2⟩ := DefR.keep hkx a2 (hnk _ (Nat.le_succ _))
            have hend : (Instr.endLoop (w.heap.size + 1)).run P w2 = .ok none { w2 with heap := w2.heap.setIfInBounds (w.heap.size + 1) (.loop { rec0 with state := .exhausted }) } := by
              have hl2 : w2.heap[w.heap.size + 1]? = some (.loop rec0) := l1
              exact run_endLoop (P := P) hl2 (by simp [rec0])
            let w3 : World := { w2 with heap := w2.heap.setIfInBounds (w.heap.size + 1) (.loop { rec0 with state := .exhausted }) }
            have hother : ∀ j, j ≠ w.heap.size + 1 → w3.heap[j]? = w2.heap[j]? := fun j hj => by
              show (w2.heap.setIfInBounds _ _)[j]? = _
              rw [Array.getElem?_setIfInBounds, if_neg (Ne.symm hj)]
            have hs3 : w3.heap.size = w2.heap.size := by show (w2.heap.setIfInBounds _ _).size = _; simp
            have sback : Steps P (lone (b.at a (.code (.rangeFunc g ps assign body) :: k)) cs w) (lone (b.at { a with defers := [{ target := .collected w.heap.size, args := #[] }] ++ a.defers } k) cs w3) := by
              rw [hat, hat]
              refine .head henter (Steps.trans hsteps (.head ?_ (.one (stepR_endRangeFunc hend))))
              rw [← finish_atR_inRangeFunc (w.heap.size + 1) v'']
              exact step_leave_returned hleave
            have hq' := hq κ' { a with defers := [{ target := .collected w.heap.size, args := #[] }] ++ a.defers } w3
              ⟨fun id o e => let ⟨y, h1, h2⟩ := hrel2.at_ id o e; ⟨y, h1, h2.heap (hother _ (l2 id y h1))⟩, hrel2.one, fun id y hy => by rw [hs3]; exact hrel2.old id y hy⟩
              ⟨hfr.size, fun i => (hfr.at_ i).mono hkx.le⟩
              ⟨[w.heap.size], rfl, by simp, fun D hD => by
                obtain rfl : D = w.heap.size := by simpa using hD
                exact ⟨Nat.le_refl _, by rw [hother _ (by omega)]; exact d1, d2⟩⟩
              ⟨hkx.le, hkx.dom, fun id y hy => by
                rcases hkx.new id y hy with h | h | h
                · exact .inl h
                · have : w1.heap.size = w.heap.size + 2 := a4
                  exact .inr (.inl (by omega))
                · exact .inr (.inr h), fun j hj hn => by
                  have h12 : w1.heap.size = w.heap.size + 2 := a4
                  rw [hother j (by omega), hkx.keep j (by omega) hn, a3 j hj], ⟨hkx.same.os, hkx.same.tape, hkx.same.output, by
                  have h12 : w1.heap.size = w.heap.size + 2 := a4
                  have := hkx.same.size
                  rw [hs3]; omega⟩⟩
            exact ⟨.normal, _, w3, hq', sback⟩
        · cases e
    · cases e

theorem stepC_sound (hm : P.follows .mixedOrders = true) (hs : OpSound P gl ev) (hcf : CallSound P gl recF) (hr : CodeSound P gl recC) : CodeSound P gl (stepC P gl ev recF recC) := by
  intro c f h ex f' h' e wf hsm
  have still : ∀ (x : AExit), ex = x → f' = f → h' = h → (∀ (Q : Exit → Act → World → Prop) (a : Act) (w : World), Q x.to a w → c.wp P Q a w) → (Ext h h' ∧ WF h' ∧ f'.n = f.n) ∧
    ∀ (κ : K) (G : Nat → Option AObj) (a : Act) (w : World) (Q : Exit → Act → World → Prop), KG gl κ → Rel P κ G w → FrR κ f a → Agree h h' G → Fresh h h' κ G →
      (∀ κ' a' w', Rel P κ' (merge h h' G) w' → FrR κ' f' a' → DefR κ' w w' a.defers a'.defers → KX h h' κ κ' w w' → Q ex.to a' w') → c.wp P Q a w := by
    rintro x rfl rfl rfl hwp
    refine ⟨⟨Ext.refl _, wf, rfl⟩, fun κ G a w Q hg hrel hfr hag hfs hq => hwp Q a w ?_⟩
    exact hq κ a w (by rw [merge_self wf hag]; exact hrel) hfr (DefR.of_eq rfl) (KX.refl _ _ _)
  cases c with
  | skip => simp only [stepC, Option.some.injEq, Prod.mk.injEq] at e; exact still .normal e.1.symm e.2.1.symm e.2.2.symm fun Q a w hq => wp_skip hq
  | label l => simp only [stepC, Option.some.injEq, Prod.mk.injEq] at e; exact still .normal e.1.symm e.2.1.symm e.2.2.symm fun Q a w hq => wp_label hq
  | exit id => simp only [stepC, Option.some.injEq, Prod.mk.injEq] at e; exact still (.exit id) e.1.symm e.2.1.symm e.2.2.symm fun Q a w hq => wp_exit hq
  | goto l => simp only [stepC, Option.some.injEq, Prod.mk.injEq] at e; exact still (.goto l) e.1.symm e.2.1.symm e.2.2.symm fun Q a w hq => wp_goto hq
  | ret => simp only [stepC, Option.some.injEq, Prod.mk.injEq] at e; exact still .ret e.1.symm e.2.1.symm e.2.2.symm fun Q a w hq => wp_ret hq
  | seq x y =>
    simp only [stepC] at e
    split at e
    · rename_i f1 h1 hc
      obtain ⟨⟨x1, wf1, hn1⟩, s1⟩ := hr _ _ _ _ _ _ hc wf hsm
      obtain ⟨⟨x2, wf2, hn2⟩, s2⟩ := hr _ _ _ _ _ _ e wf1 (by rw [hn1]; exact hsm)
      refine ⟨⟨x1.trans x2, wf2, hn2.trans hn1⟩, fun κ G a w Q hg hrel hfr hag hfs hq => wp_seq ?_⟩
      refine s1 κ G a w _ hg hrel hfr (hag.left x2) (hfs.left x2) fun κ1 a1 w1 q1 q2 q3 q4 => ?_
      refine s2 κ1 _ a1 w1 Q (hg.mono q4.le) q1 q2 (hag.right x1) (hfs.right x1 q4 fun id _ hw => wf1.wr id hw) fun κ2 a2 w2 r1 r2 r3 r4 => ?_
      exact hq κ2 a2 w2 (by rw [merge_merge x1 x2] at r1; exact r1) r2 (q3.trans r4 q4.same r3) (q4.trans x1 x2 r4)
    · rename_i hne
      obtain ⟨x1, s1⟩ := hr _ _ _ _ _ _ e wf hsm
      refine ⟨x1, fun κ G a w Q hg hrel hfr hag hfs hq => wp_seq ?_⟩
      refine s1 κ G a w _ hg hrel hfr hag hfs fun κ' a' w' q1 q2 q3 q4 => exit_then ?_ (hq κ' a' w' q1 q2 q3 q4)
      rintro rfl
      exact hne f' h' e
  | cond c x y =>
    simp only [stepC] at e
    cases ho : operandOk gl c with
    | false => rw [ho] at e; cases e
    | true =>
      rw [ho] at e
      simp only [cond_true] at e
      have hev : ∀ {κ : K} {a : Act} {b : Bool}, KG gl κ → FrR κ f a → f.eval c = .bool b → a.eval c = .bool b := by
        intro κ a b hg hfr hb
        have := eval_rel hg (x := c) (f := f) (a := a) (fun t _ => hfr.at_ t) ho
        rw [hb] at this
        generalize a.eval c = v at this
        cases this; rfl
      split at e
      · rename_i hb
        obtain ⟨x1, s1⟩ := hr _ _ _ _ _ _ e wf hsm
        exact ⟨x1, fun κ G a w Q hg hrel hfr hag hfs hq => wp_cond_true (hev hg hfr hb) (s1 κ G a w Q hg hrel hfr hag hfs hq)⟩
      · rename_i hb
        obtain ⟨x1, s1⟩ := hr _ _ _ _ _ _ e wf hsm
        exact ⟨x1, fun κ G a w Q hg hrel hfr hag hfs hq => wp_cond_false (hev hg hfr hb) (s1 κ G a w Q hg hrel hfr hag hfs hq)⟩
      · cases e
  | block id c =>
    simp only [stepC] at e
    split at e
    · rename_i id' f1 h1 hc
      cases e
      obtain ⟨x1, s1⟩ := hr _ _ _ _ _ _ hc wf hsm
      refine ⟨x1, fun κ G a w Q hg hrel hfr hag hfs hq => wp_block ?_⟩
      refine s1 κ G a w _ hg hrel hfr hag hfs fun κ' a' w' q1 q2 q3 q4 => ?_
      have := hq κ' a' w' q1 q2 q3 q4
      show if id' = id then Q .normal a' w' else Q (.exit id') a' w'
      rw [beq_eq] at this
      by_cases hid : id' = id
      · simp only [hid, decide_true, cond_true] at this; rw [if_pos hid]; exact this
      · simp only [hid, decide_false, cond_false] at this; rw [if_neg hid]; exact this
    · rename_i hne
      obtain ⟨x1, s1⟩ := hr _ _ _ _ _ _ e wf hsm
      refine ⟨x1, fun κ G a w Q hg hrel hfr hag hfs hq => wp_block ?_⟩
      refine s1 κ G a w _ hg hrel hfr hag hfs fun κ' a' w' q1 q2 q3 q4 => ?_
      have := hq κ' a' w' q1 q2 q3 q4
      cases ex with
      | exit id' => exact absurd e (hne id' f' h')
      | _ => exact this
  | loop c =>
    have := loop_sound hr c rounds f h ex f' h' e wf hsm
    exact ⟨this.1, fun κ G a w Q hg hrel hfr hag hfs hq => wp_loop_rounds rounds (this.2 κ G a w Q hg hrel hfr hag hfs hq)⟩
  | scope body =>
    have := scope_sound hr body rounds body f h ex f' h' e wf hsm
    refine ⟨this.1, fun κ G a w Q hg hrel hfr hag hfs hq b k cs => ?_⟩
    obtain ⟨e, a', w', hq', harr⟩ := this.2 κ G a w Q hg hrel hfr hag hfs hq b k cs
    exact ⟨e, a', w', hq', .of_steps (.one step_scope) harr⟩
  | region id ops draw =>
    simp only [stepC] at e
    split at e
    · rename_i f1 h1 hrg
      cases e
      obtain ⟨x1, s1⟩ := region_sound hm hs (id := id) hrg wf hsm
      exact ⟨x1, fun κ G a w Q hg hrel hfr hag hfs hq => s1 κ G a w Q hg hrel hfr hag hfs fun κ' a' w' q1 q2 q3 q4 => hq κ' a' w' q1 q2 (DefR.of_eq q3) q4⟩
    · cases e
  | rangeFunc g ps assign body =>
    simp only [stepC] at e
    split at e
    · rename_i h1 hra
      cases e
      exact rangeA_sound hcf hra wf
    · cases e
  | refuse => cases e

/-! ### functions -/

theorem sr_mapMl {α : Type} {κ : K} {f f' : α → Sem Value} (hf : ∀ x κ', κ.le κ' → SR P VR κ' (f x) (f' x)) : ∀ (l : List α) (κ' : K), κ.le κ' → SR P (fun κ a b => VL κ a b) κ' (l.mapM f) (l.mapM f')
  | [], _, _ => by simp only [List.mapM_nil]; exact .pure .nil
  | x :: l, κ', hk => by
    simp only [List.mapM_cons]
    refine SR.bind' (hf x κ' hk) fun κ1 v v' hk1 hv => ?_
    exact SR.bind' (sr_mapMl hf l κ1 (K.le_trans hk hk1)) fun κ2 vs vs' hk2 hvs => .pure (.cons (hv.mono hk2) hvs)
def resOf (get : Nat → Value) : ResultVar → Sem Value
  | .tmp t => pure (get t)
  | .cell a t => do loadVar t (← asAddr (get a))
theorem resultsF_eq (get : Nat → Value) (fn : Func) : resultsF get fn = (do
    let vs ← fn.results.mapM (resOf get)
    pure (if h : vs.size = 1 then vs[0] else .tuple vs)) := by
  unfold resultsF
  congr 1
theorem results_eq (fn : Func) (tmps : Array Value) : results fn tmps = resultsF (fun t => tmps.getD t undef) fn := rfl
def resPack (l : List Value) : Value := if h : (⟨l⟩ : Array Value).size = 1 then (⟨l⟩ : Array Value)[0] else .tuple ⟨l⟩
theorem resultsF_list (get : Nat → Value) (fn : Func) : resultsF get fn = (do
    let vs ← fn.results.toList.mapM (resOf get)
    pure (resPack vs)) := by
  rw [resultsF_eq, Array.mapM_eq_mapM_toList]
  simp only [map_eq_pure_bind, bind_assoc, pure_bind]
  rfl
theorem vr_pack {κ : K} {l l' : List Value} (h : VL κ l l') : VR κ (resPack l) (resPack l') := by
  unfold resPack
  cases h with
  | nil => exact .tuple .nil
  | cons h1 h2 => cases h2 with
    | nil => exact h1
    | cons h3 h4 => exact .tuple (.cons h1 (.cons h3 h4))
theorem sr_results {κ : K} {get get' : Nat → Value} (h : ∀ i, VR κ (get i) (get' i)) (fn : Func) : SR P VR κ (resultsF get fn) (resultsF get' fn) := by
  rw [resultsF_list, resultsF_list]
  refine SR.bind' (sr_mapMl (fun x κ' hk => ?_) _ κ (K.le_refl κ)) fun κ' a b _ hl => .pure (vr_pack hl)
  cases x with
  | tmp t => exact .pure ((h t).mono hk)
  | cell c t => exact SR.bind' (sr_asAddr ((h c).mono hk)) fun κ1 a a' _ ha => sr_loadVar t ha
theorem ro_resOf (get : Nat → Value) (x : ResultVar) : RO P (resOf get x) := by
  cases x with
  | tmp t => exact ro_pure _
  | cell c t => exact ro_bind (ro_asAddr _) fun a => ro_loadVar t a
theorem lo_resOf (get : Nat → Value) (x : ResultVar) : LO P (resOf get x) := by
  cases x with
  | tmp t => exact lo_pure _
  | cell c t => exact lo_bind (lo_asAddr _) fun a => lo_loadVar t a
theorem ro_results (get : Nat → Value) (fn : Func) : RO P (resultsF get fn) := by
  rw [resultsF_list]; exact ro_bind (ro_mapM (ro_resOf get) _) fun _ => ro_pure _
theorem lo_results (get : Nat → Value) (fn : Func) : LO P (resultsF get fn) := by
  rw [resultsF_list]; exact lo_bind (lo_mapM (lo_resOf get) _) fun _ => lo_pure _

theorem ofArgs_get : ∀ (l : List Value) (i : Nat) (t : T Value) (n : Nat), small n = true → i + l.length ≤ n → ∀ j, (ofArgs l i t).get j = if i ≤ j ∧ j < i + l.length then l[j - i]? else t.get j
  | [], i, t, n, hs, hn, j => by
    rw [if_neg (by simp)]; rfl
  | v :: l, i, t, n, hs, hn, j => by
    simp only [List.length_cons] at hn ⊢
    unfold ofArgs
    rw [ofArgs_get l (i + 1) _ n hs (by omega) j]
    have h1 := T.get_set 24 t i (some v) j (small_lt (small_of_lt hs (by omega)))
    by_cases hij : j = i
    · subst hij
      rw [if_neg (by omega), if_pos (by omega), h1, if_pos rfl]
      simp
    · by_cases hr : i + 1 ≤ j ∧ j < i + 1 + l.length
      · rw [if_pos hr, if_pos (by omega)]
        obtain ⟨k, rfl⟩ : ∃ k, j = i + 1 + k := ⟨j - (i + 1), by omega⟩
        have e1 : i + 1 + k - (i + 1) = k := by omega
        have e2 : i + 1 + k - i = k + 1 := by omega
        rw [e1, e2, List.getElem?_cons_succ]
      · rw [if_neg hr, if_neg (by omega), h1, if_neg hij]

/-! ### leaving: the marks of ranges over functions are taken up -/

structure Shut (bs : List Nat) (w w' : World) : Prop where
  os : w'.os = w.os
  tape : w'.tape = w.tape
  output : w'.output = w.output
  size : w'.heap.size = w.heap.size
  other : ∀ k, k ∉ bs → w'.heap[k]? = w.heap[k]?
theorem Shut.nil (w : World) : Shut [] w w := ⟨rfl, rfl, rfl, rfl, fun _ _ => rfl⟩
def marksPost (P : Program) (fn : Func) (R : Ending → World → Prop) : Exit → Act → World → Prop
  | .normal, a, w | .ret, a, w => ∃ bs : List Nat, a.defers = bs.map (fun D => ({ target := .collected D, args := #[] } : Deferred)) ∧ bs.Nodup ∧ (∀ D ∈ bs, w.heap[D]? = some (.deferred (some []))) ∧
      ∀ w2, Shut bs w w2 → ∃ v, (results fn a.tmps).run P w2 = .ok v w2 ∧ R (.returned v) w2
  | _, _, _ => False
theorem marks_steps : ∀ (bs : List Nat) (w : World) (fr : Frame) (cs : List Frame), fr.mode = .returning → fr.defers = bs.map (fun D => ({ target := .collected D, args := #[] } : Deferred)) → bs.Nodup → (∀ D ∈ bs, w.heap[D]? = some (.deferred (some []))) →
    ∃ w2, Shut bs w w2 ∧ Steps P (lone fr cs w) (lone { fr with defers := [] } cs w2)
  | [], w, fr, cs, hm, hd, _, _ => ⟨w, .nil w, by
    have : ({ fr with defers := [] } : Frame) = fr := by cases fr; simp only [List.map_nil] at hd; subst hd; rfl
    rw [this]; exact .refl _ _⟩
  | D :: bs, w, fr, cs, hm, hd, hn, hb => by
    obtain ⟨hn1, hn2⟩ := List.nodup_cons.1 hn
    have htake := run_takeDeferred (P := P) (hb D (by simp))
    have h1 := step_collected (P := P) (fr := fr) (cs := cs) (w := w) (by rw [hm]; simp) hd rfl htake
    have hsz : (w.heap.setIfInBounds D (.deferred none)).size = w.heap.size := by simp
    have hoth : ∀ k, k ≠ D → (w.heap.setIfInBounds D (.deferred none))[k]? = w.heap[k]? := fun k hk => by rw [Array.getElem?_setIfInBounds, if_neg (Ne.symm hk)]
    obtain ⟨w2, hsh, hst⟩ := marks_steps bs { w with heap := w.heap.setIfInBounds D (.deferred none) } { fr with defers := [] ++ bs.map (fun D => ({ target := .collected D, args := #[] } : Deferred)) } cs hm (by simp) hn2
      (fun E hE => by
        show (w.heap.setIfInBounds D (.deferred none))[E]? = _
        rw [hoth E (fun e => hn1 (e ▸ hE))]; exact hb E (by simp [hE]))
    exact ⟨w2, ⟨hsh.os, hsh.tape, hsh.output, hsh.size.trans hsz, fun k hk => by
      simp only [List.mem_cons, not_or] at hk
      rw [hsh.other k hk.2]; exact hoth k hk.1⟩, .head h1 hst⟩
theorem calls_of_marks {f : FuncId} {fn : Func} {c : Code} {args : Array Value} {w : World} {R : Ending → World → Prop} (hf : P.funcs[f]? = some fn) (hb : fn.body = some c)
    (h : c.wp P (marksPost P fn R) { tmps := args ++ Array.replicate (fn.ntmps - args.size) undef, defers := [] } w) : Calls P f args w R := by
  intro cs
  let b : Frame := { (default : Frame) with fn := f, kind := .normal }
  have henter : Frame.enter P f args .normal = b.at { tmps := args ++ Array.replicate (fn.ntmps - args.size) undef, defers := [] } [.code c] := by
    simp [Frame.enter, Frame.at, hf, hb, b]
  obtain ⟨e, a', w', hq, harr⟩ := h b [] cs
  rw [← henter] at harr
  cases e with
  | normal =>
    obtain ⟨bs, hd, hn, hbs, hv⟩ := hq
    obtain ⟨w2, hsh, hst⟩ := marks_steps (P := P) bs w' { b.at a' [] with mode := .returning } cs rfl hd hn hbs
    obtain ⟨v, hr, hR⟩ := hv w2 hsh
    exact ⟨.returned v, w2, _, hR, Steps.trans harr (.head step_end hst), rfl, rfl, rfl, rfl, fn, hf, hr⟩
  | ret =>
    obtain ⟨bs, hd, hn, hbs, hv⟩ := hq
    obtain ⟨todo, hs⟩ := harr
    obtain ⟨w2, hsh, hst⟩ := marks_steps (P := P) bs w' { b.at a' todo with mode := .returning } cs rfl hd hn hbs
    obtain ⟨v, hr, hR⟩ := hv w2 hsh
    exact ⟨.returned v, w2, _, hR, Steps.trans hs hst, rfl, rfl, rfl, rfl, fn, hf, hr⟩
  | panic chain => exact hq.elim
  | exit id => exact hq.elim
  | goto l => exact hq.elim
  | outgrown => exact hq.elim

theorem stepF_sound (hr : CodeSound P gl recC) : CallSound P gl (stepF P recC) := by
  intro g args h v h' e wf
  unfold stepF at e
  split at e
  · cases e
  rename_i fn hfn
  split at e
  · cases e
  rename_i c hbody
  cases hsm : small (args.length + (fn.ntmps - args.length)) with
  | false => rw [hsm] at e; cases e
  | true =>
    rw [hsm] at e
    simp only [cond_true] at e
    have main : ∀ (ex : AExit) (f' : Fr) (h1 : AH), (ex = .normal ∨ ex = .ret) → recC c ⟨ofArgs args 0 .nil, args.length + (fn.ntmps - args.length)⟩ h = some (ex, f', h1) → arun P (resultsF f'.get fn) h1 = some (v, h') →
        (Ext h h' ∧ WF h') ∧ ∀ (κ : K) (G : Nat → Option AObj) (args' : Array Value) (w : World), KG gl κ → Rel P κ G w → VL κ args args'.toList → Agree h h' G → Fresh h h' κ G →
          Calls P g args' w fun e w' => ∃ κ' v', e = .returned v' ∧ VR κ' v v' ∧ Rel P κ' (merge h h' G) w' ∧ KX h h' κ κ' w w' := by
      intro ex f' h1 hex hc he
      obtain ⟨⟨x1, wf1, hn1⟩, s1⟩ := hr _ _ _ _ _ _ hc wf hsm
      have x2 := arun_ext P _ _ _ _ he wf1
      have hlo := lo_results (P := P) _ _ _ _ _ he
      refine ⟨⟨x1.trans x2.1, x2.2⟩, fun κ G args' w hg hrel hargs hag hfs => ?_⟩
      refine calls_of_marks hfn hbody ?_
      have hlen : args'.size = args.length := by have := hargs.length; simpa using this
      have hfr : FrR κ ⟨ofArgs args 0 .nil, args.length + (fn.ntmps - args.length)⟩ { tmps := args' ++ Array.replicate (fn.ntmps - args'.size) undef, defers := [] } := by
        refine ⟨by simp [hlen], fun i => ?_⟩
        have e1 := ofArgs_get args 0 .nil (args.length + (fn.ntmps - args.length)) hsm (by omega) i
        simp only [Nat.zero_le, true_and, Nat.zero_add, Nat.sub_zero] at e1
        show VR κ (((ofArgs args 0 .nil).get i).getD undef) ((args' ++ Array.replicate (fn.ntmps - args'.size) undef).getD i undef)
        rw [e1, Array.getD_eq_getD_getElem?]
        by_cases hi : i < args.length
        · rw [if_pos hi, Array.getElem?_append_left (by omega)]
          rcases hargs.get i with ⟨a1, _⟩ | ⟨u, u', a1, a2, a3⟩
          · simp at a1; omega
          · rw [a1]
            have : args'[i]? = some u' := by simpa using a2
            rw [this]; exact a3
        · rw [if_neg hi, Array.getElem?_append_right (by omega)]
          have : (Array.replicate (fn.ntmps - args'.size) undef)[i - args'.size]?.getD undef = undef := by
            rw [Array.getElem?_replicate]; split <;> rfl
          rw [this]
          exact VR.flat _ undef_flat
      refine s1 κ G _ w _ hg hrel hfr (hag.left x2.1) (hfs.left x2.1) fun κ1 a1 w1 q1 q2 q3 q4 => ?_
      have hag1 := hag.right x1
      obtain ⟨bs, hds, hnd, hbs⟩ := q3
      have hds' : a1.defers = bs.map (fun D => ({ target := .collected D, args := #[] } : Deferred)) := by simpa using hds
      have hafter : ∀ w2 : World, Shut bs w1 w2 → ∃ v', (results fn a1.tmps).run P w2 = .ok v' w2 ∧ ∃ κ' v'', Ending.returned v' = .returned v'' ∧ VR κ' v v'' ∧ Rel P κ' (merge h h' G) w2 ∧ KX h h' κ κ' w w2 := by
        intro w2 hsh
        have hrel2 : Rel P κ1 (merge h h1 G) w2 := ⟨fun id o e => let ⟨y, r1, r2⟩ := q1.at_ id o e; ⟨y, r1, r2.heap (hsh.other _ fun hD => (hbs _ hD).2.2 id y r1 rfl)⟩, q1.one, fun id y hy => by rw [hsh.size]; exact q1.old id y hy⟩
        obtain ⟨v', hrun, hv⟩ := read_sim (sr_results (P := P) q2.at_ fn) (lo_results _ _) (ro_results _ _) he wf1 hrel2 hag1
        have hmr := merge_read wf1 hlo hag1
        refine ⟨v', hrun, κ1, v', rfl, hv, ?_, q4.le, fun id hid => q4.dom id (by have := hlo.2.1; omega), fun id b hb => ?_, fun k hk hn => ?_, ⟨hsh.os.trans q4.same.os, hsh.tape.trans q4.same.tape, hsh.output.trans q4.same.output, by rw [hsh.size]; exact q4.same.size⟩⟩
        · have := merge_merge (G := G) x1 x2.1
          rw [hmr] at this
          rw [← this]; exact hrel2
        · have := q4.new id b hb
          rw [hlo.2.2]; exact this
        · rw [hsh.other k fun hD => by have := (hbs k hD).1; omega]
          exact q4.keep k hk (by rw [← hlo.2.2]; exact hn)
      rcases hex with rfl | rfl
      · exact ⟨bs, hds', hnd, fun D hD => (hbs D hD).2.1, hafter⟩
      · exact ⟨bs, hds', hnd, fun D hD => (hbs D hD).2.1, hafter⟩
    split at e
    · rename_i f' h1 hc; exact main _ _ _ (.inl rfl) hc e
    · rename_i f' h1 hc; exact main _ _ _ (.inr rfl) hc e
    · cases e
end
end Go.Ev
