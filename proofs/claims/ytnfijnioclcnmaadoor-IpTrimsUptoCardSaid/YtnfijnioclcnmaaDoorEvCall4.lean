/- A deferred function's own code, which may recover: that the evaluator agrees with the machine. Holds for every program. -/
import Derived.Test.YtnfijnioclcnmaaDoorEvCall3
namespace Go.Ev
open Go
section
variable {P : Program} {gl : Nat} {recF : RecF} {recC : RecC} {recS : RecS} {ev : OpEv}

def inBlockS (id : Nat) (Q : Exit → Act → List Frame → World → Prop) : Exit → Act → List Frame → World → Prop
  | .exit id', a, cs, w => if id' = id then Q .normal a cs w else Q (.exit id') a cs w
  | e, a, cs, w => Q e a cs w
theorem wpS_block {Q : Exit → Act → List Frame → World → Prop} {a : Act} {cs : List Frame} {w : World} {id : Nat} {c : Code} (h : c.wpS P (inBlockS id Q) a cs w) : (Code.block id c).wpS P Q a cs w := by
  intro b k hb hr
  obtain ⟨e, a₁, cs₁, w₁, hq, harr⟩ := h b (.inBlock id :: k) hb hr
  cases e with
  | normal => exact ⟨.normal, a₁, cs₁, w₁, hq, .head step_block (Steps.trans harr (.one step_inBlock))⟩
  | exit id' =>
    by_cases hid : id' = id
    · simp only [inBlockS, hid, if_true] at hq
      exact ⟨.normal, a₁, cs₁, w₁, hq, .head step_block (harr k (by simp [exitTo, hid]))⟩
    · simp only [inBlockS, hid, if_false] at hq
      refine ⟨.exit id', a₁, cs₁, w₁, hq, fun k' hk => .head step_block (harr k' ?_)⟩
      have : (id == id') = false := by simp; exact fun h => hid h.symm
      simp [exitTo, this, hk]
  | goto l => exact ⟨_, a₁, cs₁, w₁, hq, fun k' hk => .head step_block (harr k' (by simp [gotoIn, hk]))⟩
  | ret => exact ⟨_, a₁, cs₁, w₁, hq, .of_steps (.one step_block) harr⟩
  | panic ch => exact ⟨_, a₁, cs₁, w₁, hq, .of_steps (.one step_block) harr⟩
  | outgrown => exact ⟨_, a₁, cs₁, w₁, hq, .of_steps (b := b) (k := k) (cs := cs₁) (e := .outgrown) (.one step_block) harr⟩
theorem exit_thenS {κ : K} {Q : Exit → Act → List Frame → World → Prop} {next : Act → List Frame → World → Prop} {ex : AExit} {ex' : Exit} {a : Act} {cs : List Frame} {w : World} (hx : ExR κ ex ex') (hn : ex ≠ .normal) (h : Q ex' a cs w) : Exit.thenS next Q ex' a cs w := by
  cases hx with
  | normal => exact absurd rfl hn
  | _ => exact h

theorem recover_run {o : Oper} (h : isRecover o = true) (a : Act) (w : World) : (execOp a.eval o).run P w = .ok .recover w := by
  unfold isRecover at h
  split at h
  · rename_i c ho
    split at h
    · rename_i hc
      simp [execOp, ho, resolve, hc, invoke, builtin]
    · cases h
  · cases h
theorem wpOpsS_plain {ops : Array Oper} {i : Nat} {rest : List Nat} {o : Oper} {a : Act} {cs : List Frame} {w : World} {Q : Exit → Act → List Frame → World → Prop} (ho : ops[i]? = some o) (hw : Region.wanted o (yielded ops a.tmps) = true)
    (h : o.wp P a w (fun a' w' => wpOpsS P ops Q rest a' cs w') (fun e a' w' => Q e a' cs w')) : wpOpsS P ops Q (i :: rest) a cs w := by
  simp only [wpOpsS, ho, hw, if_true]
  unfold Oper.wp at h
  split
  · rename_i w' hr
    rw [hr] at h
    exact h.elim
  · exact h

theorem runS_sound (hs : OpSound P gl ev) (hr : CallSound P gl recF) {ops : Array Oper} : ∀ (l : List Nat) (f : Fr) (m : AM) (h : AH) (ex : AExit) (f' : Fr) (m' : AM) (h' : AH), runS P gl recF ev ops l f m h = some (ex, f', m', h') → WF h → small f.n = true → (Ext h h' ∧ WF h' ∧ f'.n = f.n) ∧
    ∀ (κ : K) (G : Nat → Option AObj) (a : Act) (u : FrameMode) (c0 : Frame) (cs : List Frame) (w : World) (n0 : Nat) (Q : Exit → Act → List Frame → World → Prop), KG gl κ → Rel P κ G w → FrR κ f a → AMR κ m u → DfR P κ w n0 f.ds a.defers → n0 ≤ w.heap.size →
      Agree h h' G → Fresh h h' κ G →
      (∀ κ' ex' a' u' w', ExR κ' ex ex' → Rel P κ' (merge h h' G) w' → FrR κ' f' a' → AMR κ' m' u' → DfR P κ' w' n0 f'.ds a'.defers → KX h h' κ κ' w w' → Q ex' a' ({ c0 with mode := u' } :: cs) w') → wpOpsS P ops Q l a ({ c0 with mode := u } :: cs) w := by
  intro l
  induction l with
  | nil =>
    intro f m h ex f' m' h' e wf hsm
    cases e
    exact ⟨⟨Ext.refl _, wf, rfl⟩, fun κ G a u c0 cs w n0 Q hg hrel hfr hm hdf hn hag hfs hq => hq κ .normal a u w .normal (by rw [merge_self wf hag]; exact hrel) hfr hm hdf (KX.refl _ _ _)⟩
  | cons i l ih =>
    intro f m h ex f' m' h' e wf hsm
    simp only [runS] at e
    split at e
    · rename_i ho
      obtain ⟨x1, s1⟩ := ih f m h ex f' m' h' e wf hsm
      refine ⟨x1, fun κ G a u c0 cs w n0 Q hg hrel hfr hm hdf hn hag hfs hq => ?_⟩
      simp only [wpOpsS, ho]
      exact s1 κ G a u c0 cs w n0 Q hg hrel hfr hm hdf hn hag hfs hq
    · rename_i o ho
      cases hw : Region.wanted o (yieldedA ops f) with
      | false =>
        rw [hw] at e
        simp only [cond_false] at e
        obtain ⟨x1, s1⟩ := ih _ m h ex f' m' h' e wf (by rw [Fr.n_put]; exact hsm)
        refine ⟨⟨x1.1, x1.2.1, x1.2.2.trans (Fr.n_put _ _ _)⟩, fun κ G a u c0 cs w n0 Q hg hrel hfr hm hdf hn hag hfs hq => ?_⟩
        simp only [wpOpsS, ho]
        rw [yielded_rel (f := f) (κ := κ) fun t _ => hfr.at_ t, hw]
        simp only [Bool.false_eq_true, if_false]
        exact s1 κ G _ u c0 cs w n0 Q hg hrel (hfr.put hsm o.dst (VR.flat _ undef_flat)) hm (by rw [put_ds, put_defers]; exact hdf) hn hag hfs hq
      | true =>
        rw [hw] at e
        simp only [cond_true] at e
        cases hrc : isRecover o with
        | true =>
          rw [hrc] at e
          simp only [cond_true] at e
          have go : ∀ (v : Value) (m1 : AM), runS P gl recF ev ops l (f.put o.dst v) m1 h = some (ex, f', m', h') → (∀ κ u, AMR κ m u → ∃ v' u', VR κ v v' ∧ AMR κ m1 u' ∧ ∀ (c0 : Frame) (cs : List Frame),
                (match recoverD ({ c0 with mode := u } :: cs) with | some (x, cs') => (x, cs') | none => (.nilIface, { c0 with mode := u } :: cs)) = (v', { c0 with mode := u' } :: cs)) →
              (Ext h h' ∧ WF h' ∧ f'.n = f.n) ∧
              ∀ (κ : K) (G : Nat → Option AObj) (a : Act) (u : FrameMode) (c0 : Frame) (cs : List Frame) (w : World) (n0 : Nat) (Q : Exit → Act → List Frame → World → Prop), KG gl κ → Rel P κ G w → FrR κ f a → AMR κ m u → DfR P κ w n0 f.ds a.defers → n0 ≤ w.heap.size →
                Agree h h' G → Fresh h h' κ G →
                (∀ κ' ex' a' u' w', ExR κ' ex ex' → Rel P κ' (merge h h' G) w' → FrR κ' f' a' → AMR κ' m' u' → DfR P κ' w' n0 f'.ds a'.defers → KX h h' κ κ' w w' → Q ex' a' ({ c0 with mode := u' } :: cs) w') → wpOpsS P ops Q (i :: l) a ({ c0 with mode := u } :: cs) w := by
            intro v m1 e hrec
            obtain ⟨x1, s1⟩ := ih _ m1 h ex f' m' h' e wf (by rw [Fr.n_put]; exact hsm)
            refine ⟨⟨x1.1, x1.2.1, x1.2.2.trans (Fr.n_put _ _ _)⟩, fun κ G a u c0 cs w n0 Q hg hrel hfr hm hdf hn hag hfs hq => ?_⟩
            obtain ⟨v', u', hv, hm1, hcs⟩ := hrec κ u hm
            have hcs := hcs c0 cs
            have hwant : Region.wanted o (yielded ops a.tmps) = true := by rw [yielded_rel (f := f) (κ := κ) fun t _ => hfr.at_ t]; exact hw
            have hnext := s1 κ G (a.put o.dst v') u' c0 cs w n0 Q hg hrel (hfr.put hsm o.dst hv) hm1 (by rw [put_ds, put_defers]; exact hdf) hn hag hfs hq
            simp only [wpOpsS, ho, hwant, if_true, recover_run hrc]
            cases hrd : recoverD ({ c0 with mode := u } :: cs) with
            | none =>
              rw [hrd] at hcs
              simp only [Prod.mk.injEq] at hcs
              obtain ⟨h1, h2⟩ := hcs
              simp only []
              rw [h1, h2]
              exact hnext
            | some x =>
              obtain ⟨x1, x2⟩ := x
              rw [hrd] at hcs
              simp only [Prod.mk.injEq] at hcs
              obtain ⟨h1, h2⟩ := hcs
              simp only []
              rw [h1, h2]
              exact hnext
          split at e
          · rename_i v
            refine go v (.pan v true) e fun κ u hm => ?_
            cases hm with
            | pan hv => exact ⟨_, _, hv, .pan hv, fun c0 cs => rfl⟩
          · rename_i m1 hne
            refine go .nilIface m e fun κ u hm => ⟨.nilIface, u, .nilIface, hm, fun c0 cs => ?_⟩
            cases hm with
            | ret => rfl
            | pan hv =>
              rename_i v v' r
              cases r with
              | true => rfl
              | false => exact absurd rfl (hne v)
        | false =>
          rw [hrc] at e
          simp only [cond_false] at e
          split at e
          · rename_i f1 h1 ho1
            obtain ⟨⟨x1, wf1, hn1⟩, s1⟩ := oneA_sound hs hr ho1 wf hsm
            obtain ⟨⟨x2, wf2, hn2⟩, s2⟩ := ih f1 m h1 ex f' m' h' e wf1 (by rw [hn1]; exact hsm)
            refine ⟨⟨x1.trans x2, wf2, hn2.trans hn1⟩, fun κ G a u c0 cs w n0 Q hg hrel hfr hm hdf hn hag hfs hq => ?_⟩
            refine wpOpsS_plain ho (by rw [yielded_rel (f := f) (κ := κ) fun t _ => hfr.at_ t]; exact hw) ?_
            refine s1 κ G a w n0 _ _ hg hrel hfr hdf hn (hag.left x2) (hfs.left x2) fun κ1 ex1 a1 w1 q0 q1 q2 q3 q4 => ?_
            cases q0
            refine ⟨fun _ => ?_, fun hne => absurd rfl hne⟩
            exact s2 κ1 _ a1 u c0 cs w1 n0 Q (hg.mono q4.le) q1 q2 (hm.mono q4.le) q3 (Nat.le_trans hn (step_kx q4)) (hag.right x1) (hfs.right x1 q4 fun id _ hw => wf1.wr id hw) fun κ2 ex2 a2 u2 w2 r0 r1 r2 r3 r4 r5 =>
              hq κ2 ex2 a2 u2 w2 r0 (by rw [merge_merge x1 x2] at r1; exact r1) r2 r3 r4 (q4.trans x1 x2 r5)
          · rename_i x f1 h1 hne ho1
            cases e
            obtain ⟨x1, s1⟩ := oneA_sound hs hr ho1 wf hsm
            refine ⟨x1, fun κ G a u c0 cs w n0 Q hg hrel hfr hm hdf hn hag hfs hq => ?_⟩
            refine wpOpsS_plain ho (by rw [yielded_rel (f := f) (κ := κ) fun t _ => hfr.at_ t]; exact hw) ?_
            refine s1 κ G a w n0 _ _ hg hrel hfr hdf hn hag hfs fun κ1 ex1 a1 w1 q0 q1 q2 q3 q4 => ⟨fun hex => ?_, fun _ => hq κ1 ex1 a1 u w1 q0 q1 q2 (hm.mono q4.le) q3 q4⟩
            subst hex
            cases q0
            simp at hne
          · cases e

theorem stepS_sound (hs : OpSound P gl ev) (hcf : CallSound P gl recF) (hr : CodeSound P gl recC) (hrs : SoundS P gl recS) : SoundS P gl (stepS P gl ev recF recC recS) := by
  intro c f m h ex f' m' h' e wf hsm
  have via : (match recC c f h with | some (x, f1, h1) => some (x, f1, m, h1) | none => none) = some (ex, f', m', h') → (Ext h h' ∧ WF h' ∧ f'.n = f.n) ∧
    ∀ (κ : K) (G : Nat → Option AObj) (a : Act) (u : FrameMode) (c0 : Frame) (cs : List Frame) (w : World) (n0 : Nat) (Q : Exit → Act → List Frame → World → Prop), KG gl κ → Rel P κ G w → FrR κ f a → AMR κ m u → DfR P κ w n0 f.ds a.defers → n0 ≤ w.heap.size →
      Agree h h' G → Fresh h h' κ G →
      (∀ κ' ex' a' u' w', ExR κ' ex ex' → Rel P κ' (merge h h' G) w' → FrR κ' f' a' → AMR κ' m' u' → DfR P κ' w' n0 f'.ds a'.defers → KX h h' κ κ' w w' → Q ex' a' ({ c0 with mode := u' } :: cs) w') → c.wpS P Q a ({ c0 with mode := u } :: cs) w := by
    intro e
    split at e
    · rename_i x f1 h1 hc
      cases e
      obtain ⟨x1, s1⟩ := hr _ _ _ _ _ _ hc wf hsm
      exact ⟨x1, fun κ G a u c0 cs w n0 Q hg hrel hfr hm hdf hn hag hfs hq => wpS_of_wp (s1 κ G a w n0 _ hg hrel hfr hdf hn hag hfs fun κ' ex' a' w' q0 q1 q2 q3 q4 => hq κ' ex' a' u w' q0 q1 q2 (hm.mono q4.le) q3 q4)⟩
    · cases e
  cases c with
  | seq x y =>
    simp only [stepS] at e
    split at e
    · rename_i f1 m1 h1 hc
      obtain ⟨⟨x1, wf1, hn1⟩, s1⟩ := hrs _ _ _ _ _ _ _ _ hc wf hsm
      obtain ⟨⟨x2, wf2, hn2⟩, s2⟩ := hrs _ _ _ _ _ _ _ _ e wf1 (by rw [hn1]; exact hsm)
      refine ⟨⟨x1.trans x2, wf2, hn2.trans hn1⟩, fun κ G a u c0 cs w n0 Q hg hrel hfr hm hdf hn hag hfs hq => wpS_seq ?_⟩
      refine s1 κ G a u c0 cs w n0 _ hg hrel hfr hm hdf hn (hag.left x2) (hfs.left x2) fun κ1 ex1 a1 u1 w1 q0 q1 q2 q3 q4 q5 => ?_
      cases q0
      refine s2 κ1 _ a1 u1 c0 cs w1 n0 Q (hg.mono q5.le) q1 q2 q3 q4 (Nat.le_trans hn (step_kx q5)) (hag.right x1) (hfs.right x1 q5 fun id _ hw => wf1.wr id hw) fun κ2 ex2 a2 u2 w2 r0 r1 r2 r3 r4 r5 => ?_
      exact hq κ2 ex2 a2 u2 w2 r0 (by rw [merge_merge x1 x2] at r1; exact r1) r2 r3 r4 (q5.trans x1 x2 r5)
    · rename_i hne
      obtain ⟨x1, s1⟩ := hrs _ _ _ _ _ _ _ _ e wf hsm
      refine ⟨x1, fun κ G a u c0 cs w n0 Q hg hrel hfr hm hdf hn hag hfs hq => wpS_seq ?_⟩
      refine s1 κ G a u c0 cs w n0 _ hg hrel hfr hm hdf hn hag hfs fun κ' ex' a' u' w' q0 q1 q2 q3 q4 q5 => exit_thenS q0 ?_ (hq κ' ex' a' u' w' q0 q1 q2 q3 q4 q5)
      rintro rfl
      exact hne f' m' h' e
  | cond c x y =>
    simp only [stepS] at e
    cases ho : operandOk gl c with
    | false => rw [ho] at e; cases e
    | true =>
      rw [ho] at e
      simp only [cond_true] at e
      have hev : ∀ {κ : K} {a : Act} {b : Bool}, KG gl κ → FrR κ f a → f.eval c = .bool b → a.eval c = .bool b := by
        intro κ a b hg hfr hb
        have := eval_rel hg (x := c) (f := f) (a := a) (fun t _ => hfr.at_ t) ho
        rw [hb] at this
        generalize a.eval c = v at this
        cases this; rfl
      split at e
      · rename_i hb
        obtain ⟨x1, s1⟩ := hrs _ _ _ _ _ _ _ _ e wf hsm
        exact ⟨x1, fun κ G a u c0 cs w n0 Q hg hrel hfr hm hdf hn hag hfs hq => wpS_cond (hev hg hfr hb) (s1 κ G a u c0 cs w n0 Q hg hrel hfr hm hdf hn hag hfs hq)⟩
      · rename_i hb
        obtain ⟨x1, s1⟩ := hrs _ _ _ _ _ _ _ _ e wf hsm
        exact ⟨x1, fun κ G a u c0 cs w n0 Q hg hrel hfr hm hdf hn hag hfs hq => wpS_cond (hev hg hfr hb) (s1 κ G a u c0 cs w n0 Q hg hrel hfr hm hdf hn hag hfs hq)⟩
      · cases e
  | block id c =>
    simp only [stepS] at e
    split at e
    · rename_i id' f1 m1 h1 hc
      cases e
      obtain ⟨x1, s1⟩ := hrs _ _ _ _ _ _ _ _ hc wf hsm
      refine ⟨x1, fun κ G a u c0 cs w n0 Q hg hrel hfr hm hdf hn hag hfs hq => wpS_block ?_⟩
      refine s1 κ G a u c0 cs w n0 _ hg hrel hfr hm hdf hn hag hfs fun κ' ex' a' u' w' q0 q1 q2 q3 q4 q5 => ?_
      cases q0
      show if id' = id then Q .normal a' _ w' else Q (.exit id') a' _ w'
      by_cases hid : id' = id
      · rw [if_pos hid]
        exact hq κ' .normal a' u' w' (by rw [beq_eq]; simp only [hid, decide_true, cond_true]; exact .normal) q1 q2 q3 q4 q5
      · rw [if_neg hid]
        exact hq κ' (.exit id') a' u' w' (by rw [beq_eq]; simp only [hid, decide_false, cond_false]; exact .exit id') q1 q2 q3 q4 q5
    · rename_i hne
      obtain ⟨x1, s1⟩ := hrs _ _ _ _ _ _ _ _ e wf hsm
      refine ⟨x1, fun κ G a u c0 cs w n0 Q hg hrel hfr hm hdf hn hag hfs hq => wpS_block ?_⟩
      refine s1 κ G a u c0 cs w n0 _ hg hrel hfr hm hdf hn hag hfs fun κ' ex' a' u' w' q0 q1 q2 q3 q4 q5 => ?_
      have := hq κ' ex' a' u' w' q0 q1 q2 q3 q4 q5
      cases q0 with
      | exit id' => exact absurd e (hne id' f' m' h')
      | _ => exact this
  | region id ops draw =>
    cases draw with
    | true => exact via e
    | false =>
      simp only [stepS, cond_false] at e
      obtain ⟨x1, s1⟩ := runS_sound hs hcf _ _ _ _ _ _ _ _ e wf hsm
      exact ⟨x1, fun κ G a u c0 cs w n0 Q hg hrel hfr hm hdf hn hag hfs hq => wpS_region (s1 κ G a u c0 cs w n0 Q hg hrel hfr hm hdf hn hag hfs hq)⟩
  | _ => exact via e

theorem stepD_sound (hrs : SoundS P gl recS) : DeferSound P gl (stepD P recS) := by
  intro g args m h m' h' e wf
  unfold stepD at e
  split at e
  · cases e
  rename_i fn hfn
  split at e
  · cases e
  rename_i c hbody
  cases hsm : small (args.length + (fn.ntmps - args.length)) with
  | false => rw [hsm] at e; cases e
  | true =>
    rw [hsm] at e
    simp only [cond_true] at e
    have main : ∀ (ex : AExit) (f' : Fr) (m1 : AM) (h1 : AH), (ex = .normal ∨ ex = .ret) → recS c { t := ofArgs args 0 .nil, n := args.length + (fn.ntmps - args.length) } m h = some (ex, f', m1, h1) →
        (match f'.ds, arun P (resultsF f'.get fn) h1 with | [], some (_, h2) => some (m1, h2) | _, _ => none) = some (m', h') →
        (Ext h h' ∧ WF h') ∧ ∀ (κ : K) (G : Nat → Option AObj) (args' : Array Value) (u : FrameMode) (w : World), KG gl κ → Rel P κ G w → VL κ args args'.toList → AMR κ m u → Agree h h' G → Fresh h h' κ G →
          CallsD P g args' u w fun e u' w' => ∃ κ' v, e = .returned v ∧ AMR κ' m' u' ∧ Rel P κ' (merge h h' G) w' ∧ KX h h' κ κ' w w' := by
      intro ex f' m1 h1 hex hc e
      split at e
      · rename_i v h2 hds he
        cases e
        obtain ⟨⟨x1, wf1, hn1⟩, s1⟩ := hrs _ _ _ _ _ _ _ _ hc wf hsm
        have x2 := arun_ext P _ _ _ _ he wf1
        have hlo := lo_results (P := P) _ _ _ _ _ he
        refine ⟨⟨x1.trans x2.1, x2.2⟩, fun κ G args' u w hg hrel hargs hm hag hfs => ?_⟩
        refine callsD_of_wpS hfn hbody fun c0 cs hc0 => ?_
        have hc0' : c0 = { c0 with mode := u } := by subst hc0; rfl
        rw [hc0']
        refine s1 κ G _ u c0 cs w w.heap.size _ hg hrel (start_rel hargs fn.ntmps hsm) hm .nil (Nat.le_refl _) (hag.left x2.1) (hfs.left x2.1) fun κ1 ex1 a1 u1 w1 q0 q1 q2 q3 q4 q5 => ?_
        rw [hds] at q4
        have hd0 : a1.defers = [] := by
          generalize a1.defers = dd at q4
          cases q4
          rfl
        have hag1 := hag.right x1
        obtain ⟨v', hrun, hv⟩ := read_sim (sr_results (P := P) q2.at_ fn) (lo_results _ _) (ro_results _ _) he wf1 q1 hag1
        have hmr := merge_read wf1 hlo hag1
        have hfin : ∃ κ' v'', Ending.returned v' = .returned v'' ∧ AMR κ' m' u1 ∧ Rel P κ' (merge h h' G) w1 ∧ KX h h' κ κ' w w1 := by
          refine ⟨κ1, v', rfl, q3, ?_, q5.le, fun id hid => q5.dom id (by have := hlo.2.1; omega), fun id b hb => ?_, fun k hk hn => ?_, q5.same⟩
          · have := merge_merge (G := G) x1 x2.1
            rw [hmr] at this
            rw [← this]; exact q1
          · have := q5.new id b hb
            rw [hlo.2.2]; exact this
          · exact q5.keep k hk (by rw [← hlo.2.2]; exact hn)
        rcases hex with rfl | rfl
        · cases q0; exact ⟨hd0, u1, rfl, v', hrun, hfin⟩
        · cases q0; exact ⟨hd0, u1, rfl, v', hrun, hfin⟩
      · cases e
    split at e
    · rename_i f' m1 h1 hc; exact main _ _ _ _ (.inl rfl) hc e
    · rename_i f' m1 h1 hc; exact main _ _ _ _ (.inr rfl) hc e
    · cases e
end
end Go.Ev
