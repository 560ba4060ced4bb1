/- Calls, regions and code: that the evaluator agrees with the machine. Holds for every program. -/
import Derived.Test.YtnfijnioclcnmaaDoorEvCode
namespace Go.Ev
open Go
section
variable {P : Program} {gl : Nat} {recF : RecF} {recC : RecC} {ev ev' : OpEv}

theorem vl_map {κ : K} {ρ ρ' : Operand → Value} {l : List Operand} (h : ∀ x ∈ l, VR κ (ρ x) (ρ' x)) : VL κ (l.map ρ) (l.map ρ') := by
  induction l with
  | nil => exact .nil
  | cons x l ih => exact .cons (h x (by simp)) (ih fun y hy => h y (by simp [hy]))

theorem calleeA_sound {f : Fr} {o : Oper} {c : Call} (ho : o.op = .call c) {g : FuncId} {args : List Value} (e : calleeA P f.eval c = some (g, args)) {κ : K} {a : Act} (hρ : ∀ x ∈ o.op.operands, VR κ (f.eval x) (a.eval x)) (w : World) :
    ∃ args', (execOp a.eval o).run P w = .ok (.enter g args') w ∧ VL κ args args'.toList := by
  have hargs : VL κ (c.args.toList.map f.eval) (c.args.toList.map a.eval) := vl_map fun x hx => hρ x (by rw [ho]; simp [Op.operands, Call.operands]; exact Or.inr (by simpa using hx))
  unfold calleeA at e
  split at e
  · cases e
  · rename_i recv name hc
    have hr : VR κ (f.eval recv) (a.eval recv) := hρ recv (by rw [ho]; simp [Op.operands, Call.operands, hc])
    split at e
    · rename_i t v hv
      split at e
      · rename_i g' hm
        cases hb : hasBody P g' with
        | false => rw [hb] at e; cases e
        | true =>
          rw [hb] at e
          cases e
          rw [hv] at hr
          generalize hv' : a.eval recv = rv' at hr
          cases hr with
          | iface hvr =>
            rename_i v'
            refine ⟨#[v'] ++ c.args.map a.eval, ?_, by simpa using VL.cons hvr hargs⟩
            have hd : ∀ n, (method (n + 1) t v' name).run P w = .ok (g, v') w := fun n => run_method hm n v' w
            have hpos : 0 < Made.depth := by decide
            have hdep : ∃ n, P.types.size + Made.depth = n + 1 := ⟨P.types.size + Made.depth - 1, by omega⟩
            obtain ⟨n, hn⟩ := hdep
            have e0 : ∀ l : Array Value, ((#[Value.iface t v'] : Array Value) ++ l)[0]? = some (Value.iface t v') := fun l => by rw [Array.getElem?_append_left (by simp)]; rfl
            have e1 : (c.args.map a.eval).extract 0 c.args.size = c.args.map a.eval := by rw [show c.args.size = (c.args.map a.eval).size by simp]; exact Array.extract_size
            simp [execOp, ho, resolve, hc, invoke, callMethod, hv', e0, e1, hn, hd, run_callFunc hb]
      · cases e
    · cases e
  · rename_i x hc
    have hr : VR κ (f.eval x) (a.eval x) := hρ x (by rw [ho]; simp [Op.operands, Call.operands, hc])
    split at e
    · rename_i g' first captured hv
      cases hb : hasBody P g' with
      | false => rw [hb] at e; cases e
      | true =>
        rw [hb] at e
        cases e
        rw [hv] at hr
        generalize hv' : a.eval x = rv' at hr
        cases hr with
        | func hfn h1 h2 =>
          rename_i first' captured'
          refine ⟨(⟨first'⟩ : Array Value) ++ c.args.map a.eval ++ (⟨captured'⟩ : Array Value), ?_, ?_⟩
          · simp [execOp, ho, resolve, hc, invoke, hv', Deferred.ofValue, run_callFunc hb]
          · simpa using (VL.append h1 hargs).append h2
    · cases e

theorem aop_sound (hz : ZerosFlat P) (hr : CallSound P gl recF) : OpSound P gl (aop P gl recF) := by
  intro f o h v h' e wf
  have conv : OpAt P gl f o h v h' → (o.op.operands.toList.all (operandOk gl) = true) → (Ext h h' ∧ WF h') ∧
    ∀ (κ : K) (G : Nat → Option AObj) (a : Act) (w : World) (K' : Act → World → Prop) (Q : Exit → Act → World → Prop), KG gl κ → Rel P κ G w → Agree h h' G → Fresh h h' κ G →
      (∀ t, Operand.tmp t ∈ o.op.operands → VR κ (f.get t) (a.tmps.getD t undef)) →
      (∀ κ' v' w', VR κ' v v' → Rel P κ' (merge h h' G) w' → KX h h' κ κ' w w' → K' (a.put o.dst v') w') → o.wp P a w K' Q := by
    intro hat hall
    refine ⟨hat.1, fun κ G a w K' Q hg hrel hag hfs ht hk => hat.2 κ G a w K' Q hg hrel hag hfs (fun x hx => ?_) hk⟩
    exact eval_rel hg (fun t hxt => ht t (hxt ▸ hx)) (List.all_eq_true.1 hall x (by simpa using hx))
  unfold aop at e
  cases hall : o.op.operands.toList.all (operandOk gl) with
  | false => rw [hall] at e; cases e
  | true =>
    rw [hall] at e
    simp only [cond_true] at e
    refine conv ?_ hall
    split at e
    · rename_i c ho
      have hs : ∀ cs b, o.op ≠ .select cs b := fun cs b h => by rw [ho] at h; cases h
      split at e
      · rename_i hc; exact appendA_sound ho hc e wf
      · exact plainA_sound hz e hs wf
      · split at e
        · rename_i g args hcal
          split at e
          case h_2 => cases e
          rename_i v0 h0 hre
          cases e
          have := hr g args h _ h' hre wf
          refine ⟨this.1, fun κ G a w K' Q hg hrel hag hfs hρ hk => ?_⟩
          obtain ⟨args', hrun, hvl⟩ := calleeA_sound ho hcal hρ w
          unfold Oper.wp
          rw [hrun, Oper.upon_enter]
          refine (this.2 κ G args' w hg hrel hvl hag hfs).mono fun en w' hen => ?_
          obtain ⟨κ', q1, q2, q3⟩ := hen
          cases q1 with
          | ret hv => exact hk κ' _ w' hv q2 q3
        · exact flatA_sound e hs wf
    · cases e
    · rename_i hns; exact plainA_sound hz e (fun cs b h => hns cs b h) wf

def orEv (a b : OpEv) : OpEv := fun f o h => match a f o h with
  | some r => some r
  | none => b f o h
theorem OpSound.or {a b : OpEv} (ha : OpSound P gl a) (hb : OpSound P gl b) : OpSound P gl (orEv a b) := by
  intro f o h v h' e wf
  unfold orEv at e
  split at e
  · rename_i r hr; cases e; exact ha f o h v h' hr wf
  · exact hb f o h v h' e wf

theorem region_sound (hm : P.follows .mixedOrders = true) (hs : OpSound P gl ev) {id : Nat} {ops : Array Oper} {draw : Bool} {f : Fr} {h : AH} {f' : Fr} {h' : AH} (e : region ev ops draw f h = some (f', h')) (wf : WF h) (hsm : small f.n = true) :
    (Ext h h' ∧ WF h' ∧ f'.n = f.n) ∧
    ∀ (κ : K) (G : Nat → Option AObj) (a : Act) (w : World) (Q : Exit → Act → World → Prop), KG gl κ → Rel P κ G w → FrR κ f a → Agree h h' G → Fresh h h' κ G →
      (∀ κ' a' w', Rel P κ' (merge h h' G) w' → FrR κ' f' a' → a'.defers = a.defers → KX h h' κ κ' w w' → Q .normal a' w') → (Code.region id ops draw).wp P Q a w := by
  unfold region at e
  cases draw with
  | false =>
    simp only [cond_false] at e
    have := runOps_sound hs _ _ _ _ _ e wf hsm
    exact ⟨this.1, fun κ G a w Q hg hrel hfr hag hfs hq => wp_region (this.2 κ G a w Q hg hrel hfr hag hfs hq)⟩
  | true =>
    simp only [cond_true] at e
    split at e
    · rename_i pl hpl
      split at e
      · rename_i f1 h1 l hd
        cases hc : (drawOk pl l && Region.noSelect ops) with
        | false => rw [hc] at e; cases e
        | true =>
          rw [hc] at e
          cases e
          simp only [Bool.and_eq_true] at hc
          obtain ⟨r1, r2⟩ := region_draw hs hpl hd hc.1 wf hsm
          refine ⟨r1, fun κ G a w Q hg hrel hfr hag hfs hq => wp_region_any hm ?_⟩
          refine r2 κ G a w.drew Q hg (rel_drew hrel) hfr hag hfs fun κ' a' w' q1 q2 q3 q4 => hq κ' a' w' q1 q2 q3 ?_
          exact ⟨q4.le, q4.dom, q4.new, q4.keep, q4.same.os, q4.same.tape, q4.same.output, q4.same.size⟩
      · cases e
    · cases e


/-! ### one operation after the other -/

theorem put_defers (a : Act) (d : Option Tmp) (v : Value) : (a.put d v).defers = a.defers := by cases d <;> rfl
theorem put_ds (f : Fr) (d : Option Tmp) (v : Value) : (f.put d v).ds = f.ds := by
  cases d with
  | none => rfl
  | some d => show (cond (Nat.blt d f.n) _ f).ds = f.ds; cases Nat.blt d f.n <;> rfl
theorem step_kx {h h' : AH} {κ κ' : K} {w w' : World} (hk : KX h h' κ κ' w w') : w.heap.size ≤ w'.heap.size := hk.same.size

theorem deferA_sound {f : Fr} {o : Oper} {c : Call} (ho : o.op = .defer c) {d : Dfr} (e : deferA P f.eval c = some d) {κ : K} {a : Act} (hρ : ∀ x ∈ o.op.operands, VR κ (f.eval x) (a.eval x)) (w : World) :
    ∃ (g : FuncId) (args captured' args' : List Value), d = .call g args ∧ hasBody P g = true ∧ VL κ args (args' ++ captured') ∧ (execOp a.eval o).run P w = .ok (.defer { target := .fn (.func g) ⟨captured'⟩, args := ⟨args'⟩ }) w := by
  have hargs : VL κ (c.args.toList.map f.eval) (c.args.toList.map a.eval) := vl_map fun x hx => hρ x (by rw [ho]; simp [Op.operands, Call.operands]; exact Or.inr (by simpa using hx))
  unfold deferA at e
  split at e
  · rename_i x hc
    have hr : VR κ (f.eval x) (a.eval x) := hρ x (by rw [ho]; simp [Op.operands, Call.operands, hc])
    split at e
    · rename_i g first captured hv
      cases hb : hasBody P g with
      | false => rw [hb] at e; cases e
      | true =>
        rw [hb] at e
        cases e
        rw [hv] at hr
        generalize hv' : a.eval x = rv' at hr
        cases hr with
        | func hfn h1 h2 =>
          rename_i first' captured'
          refine ⟨g, _, captured', first' ++ c.args.toList.map a.eval, rfl, hb, (VL.append h1 hargs).append h2, ?_⟩
          simp [execOp, ho, resolve, hc, hv', Deferred.ofValue]
    · cases e
  · cases e

/-- What an operation is asked: the run goes on, or it ends in a panic. -/
def ActAt (P : Program) (gl : Nat) (f : Fr) (o : Oper) (h : AH) (ex : AExit) (f' : Fr) (h' : AH) : Prop := (Ext h h' ∧ WF h' ∧ f'.n = f.n) ∧
    ∀ (κ : K) (G : Nat → Option AObj) (a : Act) (w : World) (n0 : Nat) (K' : Act → World → Prop) (Q : Exit → Act → World → Prop), KG gl κ → Rel P κ G w → FrR κ f a → DfR P κ w n0 f.ds a.defers → n0 ≤ w.heap.size → Agree h h' G → Fresh h h' κ G →
      (∀ κ' ex' a' w', ExR κ' ex ex' → Rel P κ' (merge h h' G) w' → FrR κ' f' a' → DfR P κ' w' n0 f'.ds a'.defers → KX h h' κ κ' w w' → (ex' = .normal → K' a' w') ∧ (ex' ≠ .normal → Q ex' a' w')) → o.wp P a w K' Q

theorem actA_sound (hr : CallSound P gl recF) {o : Oper} {f : Fr} {h : AH} {ex : AExit} {f' : Fr} {h' : AH} (hok : o.op.operands.toList.all (operandOk gl) = true) (e : actA P recF o f h = some (ex, f', h')) (wf : WF h) (hsm : small f.n = true) : ActAt P gl f o h ex f' h' := by
  have conv : ∀ {κ : K} {a : Act}, KG gl κ → FrR κ f a → ∀ x ∈ o.op.operands, VR κ (f.eval x) (a.eval x) := fun hg hfr x hx =>
    eval_rel hg (fun t _ => hfr.at_ t) (List.all_eq_true.1 hok x (by simpa using hx))
  have pan : ∀ (t : TypeId) (v : Value) (x : Operand), f.eval x = .iface t v → x ∈ o.op.operands → (∀ (a : Act) (w : World) (v' : Value), a.eval x = .iface t v' → (execOp a.eval o).run P w = .halt (.panic (.iface t v')) w) →
      ex = .panic (.iface t v) → f' = f → h' = h → ActAt P gl f o h ex f' h' := by
    intro t v x hx hmem hrun hex hf hh
    subst hex; subst hf; subst hh
    refine ⟨⟨Ext.refl _, wf, rfl⟩, fun κ G a w n0 K' Q hg hrel hfr hd hn hag hfs hq => ?_⟩
    have hv := conv hg hfr x hmem
    rw [hx] at hv
    generalize hv' : a.eval x = rv' at hv
    cases hv with
    | iface hv =>
      unfold Oper.wp
      rw [hrun a w _ hv', Oper.upon_panic]
      exact (hq κ _ a w (.panic (.iface hv)) (by rw [merge_self wf hag]; exact hrel) hfr hd (KX.refl _ _ _)).2 (by simp)
  unfold actA at e
  split at e
  · rename_i c ho
    split at e
    · rename_i d hd
      cases e
      refine ⟨⟨Ext.refl _, wf, Fr.n_put _ _ _⟩, fun κ G a w n0 K' Q hg hrel hfr hdf hn hag hfs hq => ?_⟩
      obtain ⟨g, args, captured', args', rfl, hb, hvl, hrun⟩ := deferA_sound ho hd (conv hg hfr) w
      unfold Oper.wp
      rw [hrun, Oper.upon_defer]
      refine (hq κ .normal _ w .normal (by rw [merge_self wf hag]; exact hrel) ?_ ?_ (KX.refl _ _ _)).1 rfl
      · have h2 : FrR κ ({ f with ds := .call g args :: f.ds } : Fr) { a with defers := { target := .fn (.func g) ⟨captured'⟩, args := ⟨args'⟩ } :: a.defers } := ⟨hfr.size, hfr.at_⟩
        exact h2.put hsm o.dst (VR.flat _ undef_flat)
      · rw [put_ds, put_defers]
        exact .call hb hvl hdf
    · cases e
  · rename_i x ho
    split at e
    · rename_i t v hv
      simp only [Option.some.injEq, Prod.mk.injEq] at e
      exact pan t v x hv (by rw [ho]; simp [Op.operands]) (fun a w v' hv' => by simp [execOp, ho, hv', Instr.panic, goPanic, Result.andThen]) e.1.symm e.2.1.symm e.2.2.symm
    · cases e
  · rename_i c ho
    split at e
    · rename_i hc
      split at e
      · rename_i t v hargs
        simp only [Option.some.injEq, Prod.mk.injEq] at e
        obtain ⟨args, hl⟩ : ∃ args : List Operand, c.args = ⟨args⟩ := ⟨c.args.toList, rfl⟩
        rw [hl] at hargs
        have hl1 : args.length = 1 := by have := congrArg List.length hargs; simpa using this
        obtain ⟨y, rfl⟩ := List.length_eq_one_iff.1 hl1
        simp only [List.map_cons, List.map_nil, List.cons.injEq, and_true] at hargs
        exact pan t v y hargs (by rw [ho]; simp [Op.operands, Call.operands, hl]) (fun a w v' hv' => by simp [execOp, ho, resolve, hc, hl, invoke, builtin, hv', Instr.panic, goPanic, Result.andThen]) e.1.symm e.2.1.symm e.2.2.symm
      · cases e
    · split at e
      · rename_i g args hcal
        split at e
        · rename_i v h1 hre
          cases e
          have := hr g args h _ h' hre wf
          refine ⟨⟨this.1.1, this.1.2, rfl⟩, fun κ G a w n0 K' Q hg hrel hfr hdf hn hag hfs hq => ?_⟩
          obtain ⟨args', hrun, hvl⟩ := calleeA_sound ho hcal (conv hg hfr) w
          unfold Oper.wp
          rw [hrun, Oper.upon_enter]
          refine (this.2 κ G args' w hg hrel hvl hag hfs).mono fun en w' hen => ?_
          obtain ⟨κ', q1, q2, q3⟩ := hen
          cases q1 with
          | pan hv => exact (hq κ' _ a w' (.panic hv) q2 (hfr.mono q3.le) (hdf.keep q3) q3).2 (by simp)
        · cases e
      · cases e
  · cases e

theorem oneA_sound (hs : OpSound P gl ev) (hr : CallSound P gl recF) {o : Oper} {f : Fr} {h : AH} {ex : AExit} {f' : Fr} {h' : AH} (e : oneA P gl recF ev o f h = some (ex, f', h')) (wf : WF h) (hsm : small f.n = true) : ActAt P gl f o h ex f' h' := by
  unfold oneA at e
  split at e
  · rename_i v h1 hev
    cases e
    obtain ⟨x1, s1⟩ := hs _ _ _ _ _ hev wf
    refine ⟨⟨x1.1, x1.2, Fr.n_put _ _ _⟩, fun κ G a w n0 K' Q hg hrel hfr hdf hn hag hfs hq => ?_⟩
    refine s1 κ G a w K' Q hg hrel hag hfs (fun t _ => hfr.at_ t) fun κ' v' w' q1 q2 q3 => ?_
    refine (hq κ' .normal (a.put o.dst v') w' .normal q2 ((hfr.mono q3.le).put hsm o.dst q1) ?_ q3).1 rfl
    rw [put_ds, put_defers]
    exact hdf.keep q3
  · cases hok : o.op.operands.toList.all (operandOk gl) with
    | false => rw [hok] at e; cases e
    | true => rw [hok] at e; exact actA_sound hr hok e wf hsm

theorem runA_sound (hs : OpSound P gl ev) (hr : CallSound P gl recF) {ops : Array Oper} : ∀ (l : List Nat) (f : Fr) (h : AH) (ex : AExit) (f' : Fr) (h' : AH), runA P gl recF ev ops l f h = some (ex, f', h') → WF h → small f.n = true → (Ext h h' ∧ WF h' ∧ f'.n = f.n) ∧
    ∀ (κ : K) (G : Nat → Option AObj) (a : Act) (w : World) (n0 : Nat) (Q : Exit → Act → World → Prop), KG gl κ → Rel P κ G w → FrR κ f a → DfR P κ w n0 f.ds a.defers → n0 ≤ w.heap.size → Agree h h' G → Fresh h h' κ G →
      (∀ κ' ex' a' w', ExR κ' ex ex' → Rel P κ' (merge h h' G) w' → FrR κ' f' a' → DfR P κ' w' n0 f'.ds a'.defers → KX h h' κ κ' w w' → Q ex' a' w') → wpOps P ops Q l a w := by
  intro l
  induction l with
  | nil =>
    intro f h ex f' h' e wf hsm
    cases e
    exact ⟨⟨Ext.refl _, wf, rfl⟩, fun κ G a w n0 Q hg hrel hfr hdf hn hag hfs hq => hq κ .normal a w .normal (by rw [merge_self wf hag]; exact hrel) hfr hdf (KX.refl _ _ _)⟩
  | cons i l ih =>
    intro f h ex f' h' e wf hsm
    simp only [runA] at e
    split at e
    · rename_i ho
      obtain ⟨x1, s1⟩ := ih f h ex f' h' e wf hsm
      refine ⟨x1, fun κ G a w n0 Q hg hrel hfr hdf hn hag hfs hq => ?_⟩
      simp only [wpOps, ho]
      exact s1 κ G a w n0 Q hg hrel hfr hdf hn hag hfs hq
    · rename_i o ho
      cases hw : Region.wanted o (yieldedA ops f) with
      | false =>
        rw [hw] at e
        simp only [cond_false] at e
        obtain ⟨x1, s1⟩ := ih _ h ex f' h' e wf (by rw [Fr.n_put]; exact hsm)
        refine ⟨⟨x1.1, x1.2.1, x1.2.2.trans (Fr.n_put _ _ _)⟩, fun κ G a w n0 Q hg hrel hfr hdf hn hag hfs hq => ?_⟩
        simp only [wpOps, ho]
        rw [yielded_rel (f := f) (κ := κ) fun t _ => hfr.at_ t, hw]
        simp only [Bool.false_eq_true, if_false]
        exact s1 κ G _ w n0 Q hg hrel (hfr.put hsm o.dst (VR.flat _ undef_flat)) (by rw [put_ds, put_defers]; exact hdf) hn hag hfs hq
      | true =>
        rw [hw] at e
        simp only [cond_true] at e
        split at e
        · rename_i f1 h1 ho1
          obtain ⟨⟨x1, wf1, hn1⟩, s1⟩ := oneA_sound hs hr ho1 wf hsm
          obtain ⟨⟨x2, wf2, hn2⟩, s2⟩ := ih f1 h1 ex f' h' e wf1 (by rw [hn1]; exact hsm)
          refine ⟨⟨x1.trans x2, wf2, hn2.trans hn1⟩, fun κ G a w n0 Q hg hrel hfr hdf hn hag hfs hq => ?_⟩
          simp only [wpOps, ho]
          rw [yielded_rel (f := f) (κ := κ) fun t _ => hfr.at_ t, hw]
          simp only [if_true]
          left
          refine s1 κ G a w n0 _ Q hg hrel hfr hdf hn (hag.left x2) (hfs.left x2) fun κ1 ex1 a1 w1 q0 q1 q2 q3 q4 => ?_
          cases q0
          refine ⟨fun _ => ?_, fun hne => absurd rfl hne⟩
          exact s2 κ1 _ a1 w1 n0 Q (hg.mono q4.le) q1 q2 q3 (Nat.le_trans hn (step_kx q4)) (hag.right x1) (hfs.right x1 q4 fun id _ hw => wf1.wr id hw) fun κ2 ex2 a2 w2 r0 r1 r2 r3 r4 =>
            hq κ2 ex2 a2 w2 r0 (by rw [merge_merge x1 x2] at r1; exact r1) r2 r3 (q4.trans x1 x2 r4)
        · rename_i hne
          obtain ⟨x1, s1⟩ := oneA_sound hs hr e wf hsm
          refine ⟨x1, fun κ G a w n0 Q hg hrel hfr hdf hn hag hfs hq => ?_⟩
          simp only [wpOps, ho]
          rw [yielded_rel (f := f) (κ := κ) fun t _ => hfr.at_ t, hw]
          simp only [if_true]
          left
          refine s1 κ G a w n0 _ Q hg hrel hfr hdf hn hag hfs fun κ1 ex1 a1 w1 q0 q1 q2 q3 q4 => ⟨fun hex => ?_, fun _ => hq κ1 ex1 a1 w1 q0 q1 q2 q3 q4⟩
          subst hex
          cases q0
          exact absurd e (hne f' h')

theorem exit_then {κ : K} {Q : Exit → Act → World → Prop} {next : Act → World → Prop} {ex : AExit} {ex' : Exit} {a : Act} {w : World} (hx : ExR κ ex ex') (hn : ex ≠ .normal) (h : Q ex' a w) : Exit.then next Q ex' a w := by
  cases hx with
  | normal => exact absurd rfl hn
  | _ => exact h
end
end Go.Ev
