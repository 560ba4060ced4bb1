/- Functions, their deferred calls with them: that the evaluator agrees with the machine. Holds for every program. -/
import Derived.Test.YtnfijnioclcnmaaDoorEvCall2
namespace Go.Ev
open Go
section
variable {P : Program} {gl : Nat} {recF : RecF} {rec recC : RecC} {recS : RecS} {recD : RecD} {ev : OpEv}

/-! ### results -/

theorem sr_mapMl {α : Type} {κ : K} {f f' : α → Sem Value} (hf : ∀ x κ', κ.le κ' → SR P VR κ' (f x) (f' x)) : ∀ (l : List α) (κ' : K), κ.le κ' → SR P (fun κ a b => VL κ a b) κ' (l.mapM f) (l.mapM f')
  | [], _, _ => by simp only [List.mapM_nil]; exact .pure .nil
  | x :: l, κ', hk => by
    simp only [List.mapM_cons]
    refine SR.bind' (hf x κ' hk) fun κ1 v v' hk1 hv => ?_
    exact SR.bind' (sr_mapMl hf l κ1 (K.le_trans hk hk1)) fun κ2 vs vs' hk2 hvs => .pure (.cons (hv.mono hk2) hvs)
def resOf (get : Nat → Value) : ResultVar → Sem Value
  | .tmp t => pure (get t)
  | .cell a t => do loadVar t (← asAddr (get a))
theorem resultsF_eq (get : Nat → Value) (fn : Func) : resultsF get fn = (do
    let vs ← fn.results.mapM (resOf get)
    pure (if h : vs.size = 1 then vs[0] else .tuple vs)) := by
  unfold resultsF
  congr 1
theorem results_eq (fn : Func) (tmps : Array Value) : results fn tmps = resultsF (fun t => tmps.getD t undef) fn := rfl
def resPack (l : List Value) : Value := if h : (⟨l⟩ : Array Value).size = 1 then (⟨l⟩ : Array Value)[0] else .tuple ⟨l⟩
theorem resultsF_list (get : Nat → Value) (fn : Func) : resultsF get fn = (do
    let vs ← fn.results.toList.mapM (resOf get)
    pure (resPack vs)) := by
  rw [resultsF_eq, Array.mapM_eq_mapM_toList]
  simp only [map_eq_pure_bind, bind_assoc, pure_bind]
  rfl
theorem vr_pack {κ : K} {l l' : List Value} (h : VL κ l l') : VR κ (resPack l) (resPack l') := by
  unfold resPack
  cases h with
  | nil => exact .tuple .nil
  | cons h1 h2 => cases h2 with
    | nil => exact h1
    | cons h3 h4 => exact .tuple (.cons h1 (.cons h3 h4))
theorem sr_results {κ : K} {get get' : Nat → Value} (h : ∀ i, VR κ (get i) (get' i)) (fn : Func) : SR P VR κ (resultsF get fn) (resultsF get' fn) := by
  rw [resultsF_list, resultsF_list]
  refine SR.bind' (sr_mapMl (fun x κ' hk => ?_) _ κ (K.le_refl κ)) fun κ' a b _ hl => .pure (vr_pack hl)
  cases x with
  | tmp t => exact .pure ((h t).mono hk)
  | cell c t => exact SR.bind' (sr_asAddr ((h c).mono hk)) fun κ1 a a' _ ha => sr_loadVar t ha
theorem ro_resOf (get : Nat → Value) (x : ResultVar) : RO P (resOf get x) := by
  cases x with
  | tmp t => exact ro_pure _
  | cell c t => exact ro_bind (ro_asAddr _) fun a => ro_loadVar t a
theorem lo_resOf (get : Nat → Value) (x : ResultVar) : LO P (resOf get x) := by
  cases x with
  | tmp t => exact lo_pure _
  | cell c t => exact lo_bind (lo_asAddr _) fun a => lo_loadVar t a
theorem ro_results (get : Nat → Value) (fn : Func) : RO P (resultsF get fn) := by
  rw [resultsF_list]; exact ro_bind (ro_mapM (ro_resOf get) _) fun _ => ro_pure _
theorem lo_results (get : Nat → Value) (fn : Func) : LO P (resultsF get fn) := by
  rw [resultsF_list]; exact lo_bind (lo_mapM (lo_resOf get) _) fun _ => lo_pure _

theorem ofArgs_get : ∀ (l : List Value) (i : Nat) (t : T Value) (n : Nat), small n = true → i + l.length ≤ n → ∀ j, (ofArgs l i t).get j = if i ≤ j ∧ j < i + l.length then l[j - i]? else t.get j
  | [], i, t, n, hs, hn, j => by
    rw [if_neg (by simp)]; rfl
  | v :: l, i, t, n, hs, hn, j => by
    simp only [List.length_cons] at hn ⊢
    unfold ofArgs
    rw [ofArgs_get l (i + 1) _ n hs (by omega) j]
    have h1 := T.get_set 24 t i (some v) j (small_lt (small_of_lt hs (by omega)))
    by_cases hij : j = i
    · subst hij
      rw [if_neg (by omega), if_pos (by omega), h1, if_pos rfl]
      simp
    · by_cases hr : i + 1 ≤ j ∧ j < i + 1 + l.length
      · rw [if_pos hr, if_pos (by omega)]
        obtain ⟨k, rfl⟩ : ∃ k, j = i + 1 + k := ⟨j - (i + 1), by omega⟩
        have e1 : i + 1 + k - (i + 1) = k := by omega
        have e2 : i + 1 + k - i = k + 1 := by omega
        rw [e1, e2, List.getElem?_cons_succ]
      · rw [if_neg hr, if_neg (by omega), h1, if_neg hij]


/-! ### the way out -/

/-- As 'KX', but of blocks below a number alone. -/
structure KX0 (n0 : Nat) (h h' : AH) (κ κ' : K) (w w' : World) : Prop where
  le : κ.le κ'
  dom : ∀ id, ¬ (h.n ≤ id ∧ id < h'.n) → κ' id = κ id
  new : ∀ id b, κ' id = some b → κ id = some b ∨ w.heap.size ≤ b.blk ∨ ∃ i c, κ i = some c ∧ c.blk = b.blk ∧ h'.wr.testBit i = true
  keep : ∀ k, k < n0 → (∀ id b, κ id = some b → b.blk = k → h'.wr.testBit id = false) → w'.heap[k]? = w.heap[k]?
  same : Same w w'
theorem KX0.refl (n0 : Nat) (h : AH) (κ : K) (w : World) : KX0 n0 h h κ κ w w := ⟨K.le_refl κ, fun _ _ => rfl, fun _ _ e => .inl e, fun _ _ _ => rfl, Same.refl w⟩
theorem KX.to0 {n0 : Nat} {h h' : AH} {κ κ' : K} {w w' : World} (x : KX h h' κ κ' w w') (hn : n0 ≤ w.heap.size) : KX0 n0 h h' κ κ' w w' := ⟨x.le, x.dom, x.new, fun k hk => x.keep k (Nat.lt_of_lt_of_le hk hn), x.same⟩
theorem KX0.trans {n0 : Nat} {a b c : AH} {κ κ' κ'' : K} {w w' w'' : World} (e : Ext a b) (e' : Ext b c) (hn : n0 ≤ w.heap.size) (h : KX0 n0 a b κ κ' w w') (h' : KX0 n0 b c κ' κ'' w' w'') : KX0 n0 a c κ κ'' w w'' where
  le := K.le_trans h.le h'.le
  dom := fun id hn => by
    have h1 := e.n; have h2 := e'.n
    rw [h'.dom id (by omega), h.dom id (by omega)]
  new := fun id x hx => by
    rcases h'.new id x hx with h1 | h1 | ⟨i, y, hi, hy, hw⟩
    · rcases h.new id x h1 with h2 | h2 | ⟨i, y, hi, hy, hw⟩
      · exact .inl h2
      · exact .inr (.inl h2)
      · exact .inr (.inr ⟨i, y, hi, hy, e'.wr i hw⟩)
    · exact .inr (.inl (Nat.le_trans h.same.size h1))
    · rcases h.new i y hi with h2 | h2 | ⟨j, z, hj, hz, hw'⟩
      · exact .inr (.inr ⟨i, y, h2, hy, hw⟩)
      · exact .inr (.inl (by omega))
      · exact .inr (.inr ⟨j, z, hj, hz.trans hy, e'.wr j hw'⟩)
  keep := fun k hk hnw => by
    rw [h'.keep k hk, h.keep k hk]
    · intro id x hx hb
      cases e1 : b.wr.testBit id with
      | false => rfl
      | true => have := hnw id x hx hb; rw [e'.wr id e1] at this; cases this
    · intro id x hx hb
      rcases h.new id x hx with h2 | h2 | ⟨j, z, hj, hz, hw'⟩
      · exact hnw id x h2 hb
      · omega
      · have := hnw j z hj (hz.trans hb); rw [e'.wr j hw'] at this; cases this
  same := h.same.trans h'.same

theorem settle_rel {κ : K} {m : AM} {u : FrameMode} (h : AMR κ m u) : AMR κ (settleA m) (settle u) := by
  cases h with
  | ret => exact .ret
  | pan hv =>
    rename_i r
    cases r with
    | false => exact .pan hv
    | true => exact .ret
theorem amr_run {κ : K} {m : AM} {u : FrameMode} (h : AMR κ m u) : u ≠ .run := by cases h <;> simp
theorem DfR.shut {κ : K} {w w' : World} {n0 D : Nat} (hoth : ∀ k, k ≠ D → w'.heap[k]? = w.heap[k]?) {ds : List Dfr} {ds' : List Deferred} (h : DfR P κ w n0 ds ds') (hD : D ∉ marksOf ds') : DfR P κ w' n0 ds ds' := by
  induction h with
  | nil => exact .nil
  | mark h1 h2 h3 h4 _ ih =>
    simp only [marksOf, markD, List.mem_cons, not_or] at hD
    exact .mark h1 (by rw [hoth _ (Ne.symm hD.1)]; exact h2) h3 h4 (ih hD.2)
  | call hb hv _ ih => exact .call hb hv (ih (by simpa [marksOf] using hD))

theorem leaveA_sound (hd : DeferSound P gl recD) {fn : Func} {get : Nat → Value} : ∀ (ds : List Dfr) (m : AM) (h : AH) (en : AEnd) (h' : AH), leaveA P recD fn get ds m h = some (en, h') → WF h → (Ext h h' ∧ WF h') ∧
    ∀ (κ : K) (G : Nat → Option AObj) (u : FrameMode) (w : World) (ds' : List Deferred) (n0 : Nat) (fr : Frame) (cs : List Frame), KG gl κ → Rel P κ G w → (∀ i, VR κ (get i) (fr.tmps.getD i undef)) → AMR κ m u → DfR P κ w n0 ds ds' → n0 ≤ w.heap.size → Agree h h' G → Fresh h h' κ G →
      fr.mode = u → fr.defers = ds' → P.funcs[fr.fn]? = some fn → fr.kind = .normal →
      ∃ e w' fr' κ', EndR κ' en e ∧ Rel P κ' (merge h h' G) w' ∧ KX0 n0 h h' κ κ' w w' ∧ Comes P (lone fr cs w) (lone fr' cs w') e ∧ fr'.fn = fr.fn ∧ fr'.leaving P w' e := by
  intro ds
  induction ds with
  | nil =>
    intro m h en h' e wf
    cases m with
    | ret =>
      simp only [leaveA] at e
      split at e
      · rename_i v h1 he
        cases e
        have x2 := arun_ext P _ _ _ _ he wf
        have hlo := lo_results (P := P) _ _ _ _ _ he
        refine ⟨x2, fun κ G u w ds' n0 fr cs hg hrel hget hm hdf hn hag hfs hmode hds hf hk => ?_⟩
        cases hm
        cases hdf
        obtain ⟨v', hrun, hv⟩ := read_sim (sr_results (P := P) hget fn) (lo_results _ _) (ro_results _ _) he wf hrel hag
        refine ⟨.returned v', w, fr, κ, .ret hv, by rw [merge_read wf hlo hag]; exact hrel, ?_, Steps.refl _ _, rfl, hmode, hds, hk, fn, hf, hrun⟩
        exact ⟨K.le_refl κ, fun id hid => rfl, fun _ _ e => .inl e, fun _ _ _ => rfl, Same.refl w⟩
      · cases e
    | pan v r =>
      cases r with
      | true => simp only [leaveA] at e; cases e
      | false =>
        simp only [leaveA] at e
        cases e
        refine ⟨⟨Ext.refl _, wf⟩, fun κ G u w ds' n0 fr cs hg hrel hget hm hdf hn hag hfs hmode hds hf hk => ?_⟩
        cases hm with
        | pan hv =>
          cases hdf
          exact ⟨_, w, fr, κ, .pan hv, by rw [merge_self wf hag]; exact hrel, KX0.refl _ _ _ _, Steps.refl _ _, rfl, hmode, hds, fn, hf⟩
  | cons d ds ih =>
    intro m h en h' e wf
    cases d with
    | mark =>
      simp only [leaveA] at e
      obtain ⟨x1, s1⟩ := ih m h en h' e wf
      refine ⟨x1, fun κ G u w ds' n0 fr cs hg hrel hget hm hdf hn hag hfs hmode hds hf hk => ?_⟩
      cases hdf with
      | mark h1 h2 h3 h4 h5 =>
        rename_i D ds'
        have htake := run_takeDeferred (P := P) h2
        have hst := step_collected (P := P) (fr := fr) (cs := cs) (w := w) (by rw [hmode]; exact amr_run hm) hds rfl htake
        have hoth : ∀ k, k ≠ D → (w.putObj D (.deferred none)).heap[k]? = w.heap[k]? := fun k hk => by
          show (w.heap.setIfInBounds D (.deferred none))[k]? = _
          rw [Array.getElem?_setIfInBounds, if_neg (Ne.symm hk)]
        have hsz : (w.putObj D (.deferred none)).heap.size = w.heap.size := by show (w.heap.setIfInBounds D (.deferred none)).size = _; simp
        have hrel2 : Rel P κ G (w.putObj D (.deferred none)) := ⟨fun id o e => let ⟨y, r1, r2⟩ := hrel.at_ id o e; ⟨y, r1, r2.heap (hoth _ (h3 id y r1))⟩, hrel.one, fun id y hy => by rw [hsz]; exact hrel.old id y hy⟩
        obtain ⟨e, w', fr', κ', q1, q2, q3, q4, q5, q6⟩ := s1 κ G u (w.putObj D (.deferred none)) ds' n0 { fr with defers := [] ++ ds' } cs hg hrel2 hget hm (h5.shut hoth h4) (by rw [hsz]; exact hn) hag hfs hmode rfl hf hk
        refine ⟨e, w', fr', κ', q1, q2, ?_, Comes.of_steps (.one hst) q4, q5, q6⟩
        refine ⟨q3.le, q3.dom, fun id b hb => ?_, fun k hk hnw => ?_, ⟨q3.same.os, q3.same.tape, q3.same.output, by have := q3.same.size; rw [hsz] at this; exact this⟩⟩
        · have := q3.new id b hb
          rw [hsz] at this; exact this
        · rw [q3.keep k hk hnw, hoth k (by omega)]
    | call g args =>
      simp only [leaveA] at e
      split at e
      · rename_i m' h1 hrd
        obtain ⟨⟨x1, wf1⟩, s1⟩ := hd g args m h m' h1 hrd wf
        obtain ⟨⟨x2, wf2⟩, s2⟩ := ih (settleA m') h1 en h' e wf1
        refine ⟨⟨x1.trans x2, wf2⟩, fun κ G u w ds' n0 fr cs hg hrel hget hm hdf hn hag hfs hmode hds hf hk => ?_⟩
        cases hdf with
        | call hb hvl hdf =>
          rename_i captured' args' ds'
          have hinv : (invoke (.fn (.func g) ⟨captured'⟩) ⟨args'⟩).run P w = .ok (.enter g ((⟨args'⟩ : Array Value) ++ ⟨captured'⟩)) w := by
            simp only [invoke]
            exact run_callFunc hb _ _
          have hst := step_defer (P := P) (fr := fr) (cs := cs) (w := w) (by rw [hmode]; exact amr_run hm) hds rfl hinv
          obtain ⟨e1, u1, w1, frX, hR, hsteps, hkX, hgo⟩ := s1 κ G ((⟨args'⟩ : Array Value) ++ (⟨captured'⟩ : Array Value)) u w hg hrel (by simpa using hvl) hm (hag.left x2) (hfs.left x2) { fr with defers := ds' } cs hmode
          obtain ⟨κ1, v1, rfl, hm1, hrel1, hkx1⟩ := hR
          have hst2 := step_going_returned (P := P) (c := { { fr with defers := ds' } with mode := u1 }) (cs := cs) hkX hgo
          obtain ⟨e2, w2, fr2, κ2, q1, q2, q3, q4, q5, q6⟩ := s2 κ1 _ (settle u1) w1 ds' n0 { { { fr with defers := ds' } with mode := u1 } with mode := settle u1 } cs (hg.mono hkx1.le) hrel1 (fun i => (hget i).mono hkx1.le) (settle_rel hm1) (hdf.keep hkx1) (Nat.le_trans hn hkx1.same.size) (hag.right x1)
            (hfs.right x1 hkx1 fun id _ hw => wf1.wr id hw) rfl rfl hf hk
          exact ⟨e2, w2, fr2, κ2, q1, by rw [merge_merge x1 x2] at q2; exact q2, (hkx1.to0 hn).trans x1 x2 hn q3, Comes.of_steps (.head hst (Steps.trans hsteps (.one hst2))) q4, q5, q6⟩
      · cases e

theorem start_rel {κ : K} {args : List Value} {args' : Array Value} (hargs : VL κ args args'.toList) (k : Nat) (hsm : small (args.length + (k - args.length)) = true) :
    FrR κ { t := ofArgs args 0 .nil, n := args.length + (k - args.length) } { tmps := args' ++ Array.replicate (k - args'.size) undef, defers := [] } := by
  have hlen : args'.size = args.length := by have := hargs.length; simpa using this
  refine ⟨by simp [hlen], fun i => ?_⟩
  have e1 := ofArgs_get args 0 .nil (args.length + (k - args.length)) hsm (by omega) i
  simp only [Nat.zero_le, true_and, Nat.zero_add, Nat.sub_zero] at e1
  show VR κ (((ofArgs args 0 .nil).get i).getD undef) ((args' ++ Array.replicate (k - args'.size) undef).getD i undef)
  rw [e1, Array.getD_eq_getD_getElem?]
  by_cases hi : i < args.length
  · rw [if_pos hi, Array.getElem?_append_left (by omega)]
    rcases hargs.get i with ⟨a1, _⟩ | ⟨u, u', a1, a2, a3⟩
    · simp at a1; omega
    · rw [a1]
      have : args'[i]? = some u' := by simpa using a2
      rw [this]; exact a3
  · rw [if_neg hi, Array.getElem?_append_right (by omega)]
    have : (Array.replicate (k - args'.size) undef)[i - args'.size]?.getD undef = undef := by
      rw [Array.getElem?_replicate]; split <;> rfl
    rw [this]
    exact VR.flat _ undef_flat

theorem stepF_sound (hr : CodeSound P gl recC) (hd : DeferSound P gl recD) : CallSound P gl (stepF P recC recD) := by
  intro g args h en h' e wf
  unfold stepF at e
  split at e
  · cases e
  rename_i fn hfn
  split at e
  · cases e
  rename_i c hbody
  cases hsm : small (args.length + (fn.ntmps - args.length)) with
  | false => rw [hsm] at e; cases e
  | true =>
    rw [hsm] at e
    simp only [cond_true] at e
    have main : ∀ (ex : AExit) (m : AM) (f' : Fr) (h1 : AH), ((ex = .normal ∨ ex = .ret) ∧ m = .ret ∨ ∃ v, ex = .panic v ∧ m = .pan v false) → recC c { t := ofArgs args 0 .nil, n := args.length + (fn.ntmps - args.length) } h = some (ex, f', h1) → leaveA P recD fn f'.get f'.ds m h1 = some (en, h') →
        (Ext h h' ∧ WF h') ∧ ∀ (κ : K) (G : Nat → Option AObj) (args' : Array Value) (w : World), KG gl κ → Rel P κ G w → VL κ args args'.toList → Agree h h' G → Fresh h h' κ G →
          Calls P g args' w fun e w' => ∃ κ', EndR κ' en e ∧ Rel P κ' (merge h h' G) w' ∧ KX h h' κ κ' w w' := by
      intro ex m f' h1 hex hc he
      obtain ⟨⟨x1, wf1, hn1⟩, s1⟩ := hr _ _ _ _ _ _ hc wf hsm
      obtain ⟨⟨x2, wf2⟩, s2⟩ := leaveA_sound hd f'.ds m h1 en h' he wf1
      refine ⟨⟨x1.trans x2, wf2⟩, fun κ G args' w hg hrel hargs hag hfs cs => ?_⟩
      let b : Frame := { (default : Frame) with fn := g, kind := .normal }
      have henter : Frame.enter P g args' .normal = b.at { tmps := args' ++ Array.replicate (fn.ntmps - args'.size) undef, defers := [] } [.code c] := by
        simp [Frame.enter, Frame.at, hfn, hbody, b]
      have := s1 κ G { tmps := args' ++ Array.replicate (fn.ntmps - args'.size) undef, defers := [] } w w.heap.size (fun e a1 w1 => ∃ κ1, ExR κ1 ex e ∧ Rel P κ1 (merge h h1 G) w1 ∧ FrR κ1 f' a1 ∧ DfR P κ1 w1 w.heap.size f'.ds a1.defers ∧ KX h h1 κ κ1 w w1)
        hg hrel (start_rel hargs fn.ntmps hsm) .nil (Nat.le_refl _) (hag.left x2) (hfs.left x2) fun κ1 ex1 a1 w1 q0 q1 q2 q3 q4 => ⟨κ1, q0, q1, q2, q3, q4⟩
      obtain ⟨e1, a1, w1, ⟨κ1, q0, q1, q2, q3, q4⟩, harr⟩ := this b [] cs
      rw [← henter] at harr
      have fin : ∀ (u : FrameMode) (todo : List Item), AMR κ1 m u → Steps P (lone (Frame.enter P g args' .normal) cs w) (lone { b.at a1 todo with mode := u } cs w1) →
          ∃ e w' fr, (∃ κ', EndR κ' en e ∧ Rel P κ' (merge h h' G) w' ∧ KX h h' κ κ' w w') ∧ Comes P (lone (Frame.enter P g args' .normal) cs w) (lone fr cs w') e ∧ fr.fn = g ∧ fr.leaving P w' e := by
        intro u todo hm hst
        obtain ⟨e2, w2, fr2, κ2, r1, r2, r3, r4, r5, r6⟩ := s2 κ1 _ u w1 a1.defers w.heap.size { b.at a1 todo with mode := u } cs (hg.mono q4.le) q1 q2.at_ hm q3 q4.same.size (hag.right x1) (hfs.right x1 q4 fun id _ hw => wf1.wr id hw) rfl rfl hfn rfl
        have hkx := (q4.to0 (n0 := w.heap.size) (Nat.le_refl _)).trans x1 x2 (Nat.le_refl _) r3
        exact ⟨e2, w2, fr2, ⟨κ2, r1, by rw [merge_merge x1 x2] at r2; exact r2, ⟨hkx.le, hkx.dom, hkx.new, hkx.keep, hkx.same⟩⟩, Comes.of_steps hst r4, r5, r6⟩
      rcases hex with ⟨rfl | rfl, rfl⟩ | ⟨v, rfl, rfl⟩
      · cases q0
        exact fin .returning [] .ret (Steps.trans harr (.one step_end))
      · cases q0
        obtain ⟨todo, hs⟩ := harr
        exact fin .returning todo .ret hs
      · cases q0 with
        | panic hv =>
          obtain ⟨todo, hs⟩ := harr
          exact fin _ todo (.pan hv) hs
    split at e
    · rename_i f' h1 hc; exact main _ _ _ _ (.inl ⟨.inl rfl, rfl⟩) hc e
    · rename_i f' h1 hc; exact main _ _ _ _ (.inl ⟨.inr rfl, rfl⟩) hc e
    · rename_i v f' h1 hc; exact main _ _ _ _ (.inr ⟨v, rfl, rfl⟩) hc e
    · cases e
end
end Go.Ev
