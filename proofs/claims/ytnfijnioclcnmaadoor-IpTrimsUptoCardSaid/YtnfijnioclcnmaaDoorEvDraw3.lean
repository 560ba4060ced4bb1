/- Regions whose order is open: the proof, its end. Holds for every program. -/
import Derived.Test.YtnfijnioclcnmaaDoorEvDraw2
namespace Go.Ev
open Go
section
variable {P : Program} {gl : Nat} {ev : OpEv} {ops : Array Oper}

set_option maxHeartbeats 4000000 in
theorem region_draw (hs : OpSound P gl ev) {pl l : List (Nat × Nat)} {f f' : Fr} {h h' : AH} (hpl : regionPlan ops = some pl) (hd : drawOps ev ops ops.size 0 f h = some (f', h', l))
    (hok : drawOk pl l = true) (wf : WF h) (hsm : small f.n = true) :
    (Ext h h' ∧ WF h' ∧ f'.n = f.n) ∧ ∀ (κ : K) (G : Nat → Option AObj) (a : Act) (w : World) (Q : Exit → Act → World → Prop), KG gl κ → Rel P κ G w → FrR κ f a → Agree h h' G → Fresh h h' κ G →
      (∀ κ' a' w', Rel P κ' (merge h h' G) w' → FrR κ' f' a' → a'.defers = a.defers → KX h h' κ κ' w w' → Q .normal a' w') →
      wpAny P .any ops Q ops.size (Array.replicate ops.size false) a w := by
  obtain ⟨htop, hplan⟩ := plan_spec hpl
  obtain ⟨Fs, Hs, Ps, hF0, hH0, hFn, hHn, hstep⟩ := drawOps_spec hs ops.size 0 f h f' h' l hd wf
  simp only [Nat.zero_add, Nat.sub_zero, Nat.zero_le, true_implies] at hFn hHn hstep
  have hst := fun j hj => (hstep j hj).1
  have hor := fun j hj => (hstep j hj).2.1
  have hft := fun j hj => (hstep j hj).2.2.1
  have hwf := fun j hj => (hstep j hj).2.2.2.1
  have hex := fun j hj => (hstep j hj).2.2.2.2.1
  have hwp := fun j hj => (hstep j hj).2.2.2.2.2.1
  have hfn := fun j hj => (hstep j hj).2.2.2.2.2.2
  -- numbers of blocks
  have nstep : ∀ j, j < ops.size → (Hs (j + 1)).n = (Ps j).n := fun j hj => by rw [hor j hj]; rfl
  have nle : ∀ j, j < ops.size → (Hs j).n ≤ (Hs (j + 1)).n := fun j hj => by rw [nstep j hj]; exact (hex j hj).n
  have nmono : ∀ j k, j ≤ k → k ≤ ops.size → (Hs j).n ≤ (Hs k).n := by
    intro j k hjk
    induction k with
    | zero => intro _; obtain rfl : j = 0 := by omega
              exact Nat.le_refl _
    | succ k ih =>
      intro hk
      by_cases he : j = k + 1
      · subst he; exact Nat.le_refl _
      · exact Nat.le_trans (ih (by omega) (by omega)) (nle k (by omega))
  have fnall : ∀ j, j ≤ ops.size → (Fs j).n = f.n := by
    intro j
    induction j with
    | zero => intro _; rw [hF0]
    | succ j ih => intro hj; rw [hfn j (by omega), ih (by omega)]
  -- bits
  have bits : ∀ k, k ≤ ops.size → ∀ id, ((Hs k).rd.testBit id = true ↔ h.rd.testBit id = true ∨ ∃ j, j < k ∧ (Ps j).rd.testBit id = true) ∧ ((Hs k).wr.testBit id = true ↔ h.wr.testBit id = true ∨ ∃ j, j < k ∧ (Ps j).wr.testBit id = true) := by
    intro k
    induction k with
    | zero => intro _ id; rw [hH0]; simp
    | succ k ih =>
      intro hk id
      obtain ⟨i1, i2⟩ := ih (by omega) id
      rw [hor k (by omega)]
      simp only [orB, Nat.testBit_or, Bool.or_eq_true, i1, i2]
      constructor
      · constructor
        · rintro ((h1 | ⟨j, hj, h1⟩) | h1)
          · exact .inl h1
          · exact .inr ⟨j, by omega, h1⟩
          · exact .inr ⟨k, by omega, h1⟩
        · rintro (h1 | ⟨j, hj, h1⟩)
          · exact .inl (.inl h1)
          · by_cases he : j = k
            · subst he; exact .inr h1
            · exact .inl (.inr ⟨j, by omega, h1⟩)
      · constructor
        · rintro ((h1 | ⟨j, hj, h1⟩) | h1)
          · exact .inl h1
          · exact .inr ⟨j, by omega, h1⟩
          · exact .inr ⟨k, by omega, h1⟩
        · rintro (h1 | ⟨j, hj, h1⟩)
          · exact .inl (.inl h1)
          · by_cases he : j = k
            · subst he; exact .inr h1
            · exact .inl (.inr ⟨j, by omega, h1⟩)
  have wrfin : ∀ j, j < ops.size → ∀ id, (Ps j).wr.testBit id = true → h'.wr.testBit id = true := fun j hj id e => by
    rw [← hHn]; exact ((bits ops.size (Nat.le_refl _) id).2).2 (.inr ⟨j, hj, e⟩)
  have tcfin : ∀ j, j < ops.size → ∀ id, (Ps j).touched id = true → h'.touched id = true := fun j hj id e => by
    simp only [AH.touched, Bool.or_eq_true] at e ⊢
    rw [← hHn]
    rcases e with e | e
    · exact .inl (((bits ops.size (Nat.le_refl _) id).1).2 (.inr ⟨j, hj, e⟩))
    · exact .inr (((bits ops.size (Nat.le_refl _) id).2).2 (.inr ⟨j, hj, e⟩))
  -- what an operation writes or makes
  let W : Nat → Nat → Prop := fun j id => (Ps j).wr.testBit id = true ∨ ((Hs j).n ≤ id ∧ id < (Ps j).n)
  let c : Nat → Nat → Option AObj := fun j id => (Ps j).get id
  have same : ∀ j, j < ops.size → ∀ id, id < (Hs j).n → ¬ W j id → (Hs (j + 1)).get id = (Hs j).get id := fun j hj id hid hw => by
    rw [hor j hj]
    show (Ps j).get id = _
    have := (hex j hj).same id hid (by
      cases e : (Ps j).wr.testBit id with
      | false => rfl
      | true => exact absurd (.inl e) hw)
    rw [this]; rfl
  have mergeW : ∀ j X, merge (zeroB (Hs j)) (Ps j) X = fun id => open Classical in if W j id then c j id else X id := by
    intro j X
    funext id
    unfold merge
    by_cases hw : W j id
    · rw [if_pos (by rcases hw with e | e; exact .inr e; exact .inl e), if_pos hw]
    · rw [if_neg (by rintro (e | e); exact hw (.inr e); exact hw (.inl e)), if_neg hw]
  have hext : Ext h h' := by
    refine ⟨by rw [← hH0, ← hHn]; exact nmono 0 ops.size (Nat.zero_le _) (Nat.le_refl _), fun id e => ?_, fun id e => ?_, fun id hid hw => ?_⟩
    · rw [← hHn]; exact ((bits ops.size (Nat.le_refl _) id).1).2 (.inl e)
    · rw [← hHn]; exact ((bits ops.size (Nat.le_refl _) id).2).2 (.inl e)
    · have : ∀ k, k ≤ ops.size → (Hs k).get id = h.get id := by
        intro k
        induction k with
        | zero => intro _; rw [hH0]
        | succ k ih =>
          intro hk
          have hn0 : h.n ≤ (Hs k).n := by rw [← hH0]; exact nmono 0 k (Nat.zero_le _) (by omega)
          rw [same k (by omega) id (by omega) ?_, ih (by omega)]
          rintro (e | e)
          · rw [wrfin k (by omega) id e] at hw; cases hw
          · omega
      rw [← hHn]; exact this ops.size (Nat.le_refl _)
  have hwf' : WF h' := by
    rw [← hHn]
    cases hz : ops.size with
    | zero => rw [hH0]; exact wf
    | succ m =>
      rw [hor m (by omega)]
      have w1 := hwp m (by omega)
      have w2 := hwf m (by omega)
      refine ⟨w1.dom, fun id e => ?_⟩
      simp only [orB, Nat.testBit_or, Bool.or_eq_true] at e
      rcases e with e | e
      · exact Nat.lt_of_lt_of_le (w2.wr id e) (hex m (by omega)).n
      · exact w1.wr id e
  refine ⟨⟨hext, hwf', by rw [← hFn]; exact fnall _ (Nat.le_refl _)⟩, fun κ0 G0 a0 w0 Q hg0 hrel0 hfr0 hag hfs hq => ?_⟩
  -- temporaries
  let D : Nat → Nat → Prop := fun j t => ∃ o, ops[j]? = some o ∧ o.dst = some t ∧ t < f.n
  let cF : Nat → Nat → Value := fun j t => (Fs (j + 1)).get t
  have fstep : ∀ j, j < ops.size → ∀ t, ¬ D j t → (Fs (j + 1)).get t = (Fs j).get t := by
    intro j hj t hD
    have e := hst j hj
    unfold stepOp at e
    have put : ∀ (o : Oper) v, ops[j]? = some o → ((Fs j).put o.dst v).get t = (Fs j).get t := by
      intro o v ho
      cases hdst : o.dst with
      | none => rfl
      | some d =>
        rw [Fr.get_put _ (by rw [fnall j (by omega)]; exact hsm), if_neg]
        rintro ⟨rfl, hlt⟩
        exact hD ⟨o, ho, hdst, by rw [← fnall j (by omega)]; exact hlt⟩
    split at e
    · rename_i hn; rw [Array.getElem?_eq_none_iff] at hn; omega
    · rename_i o ho
      cases hw : Region.wanted o (yieldedA ops (Fs j)) with
      | false => rw [hw] at e; simp only [cond_false, Option.some.injEq, Prod.mk.injEq] at e; rw [← e.1]; exact put o _ ho
      | true =>
        rw [hw] at e
        simp only [cond_true] at e
        split at e
        · simp only [Option.some.injEq, Prod.mk.injEq] at e; rw [← e.1]; exact put o _ ho
        · cases e
  have allF : ∀ k, k ≤ ops.size → ∀ t, st f.get D cF (fun _ => true) k t = (Fs k).get t := by
    intro k
    induction k with
    | zero => intro _ t; rw [hF0]; rfl
    | succ k ih =>
      intro hk t
      simp only [st, true_and]
      by_cases hD : D k t
      · rw [if_pos hD]
      · rw [if_neg hD, ih (by omega), fstep k (by omega) t hD]
  have allG : ∀ k, k ≤ ops.size → ∀ id, id < (Hs k).n → (h'.touched id = true ∨ h.n ≤ id) → st G0 W c (fun _ => true) k id = (Hs k).get id := by
    intro k
    induction k with
    | zero =>
      intro _ id hid ht
      rw [hH0] at hid ⊢
      rcases ht with ht | ht
      · exact hag id hid ht
      · omega
    | succ k ih =>
      intro hk id hid ht
      simp only [st, true_and]
      by_cases hw : W k id
      · rw [if_pos hw, hor k (by omega)]; rfl
      · rw [if_neg hw]
        have hid' : id < (Hs k).n := by
          rw [nstep k (by omega)] at hid
          rcases Nat.lt_or_ge id (Hs k).n with e | e
          · exact e
          · exact absurd (.inr ⟨e, hid⟩) hw
        rw [ih (by omega) id hid' ht, same k (by omega) id hid' hw]
  -- the invariant
  let S : Array Bool → Nat → Bool := fun listed j => listed.getD j false
  have main : ∀ (fuel : Nat) (listed : Array Bool) (κ : K) (a : Act) (w : World), listed.size = ops.size → left listed ops.size ≤ fuel →
      (∀ (i : Nat) (o : Oper), ops[i]? = some o → S listed i = true → ∀ j ∈ bindsOn o, S listed j = true) →
      Rel P κ (st G0 W c (S listed) ops.size) w → (∀ t, VR κ (st f.get D cF (S listed) ops.size t) (a.tmps.getD t undef)) → a.tmps.size = f.n → a.defers = a0.defers →
      κ0.le κ → (∀ id, (∀ j, j < ops.size → S listed j = true → ¬ ((Hs j).n ≤ id ∧ id < (Ps j).n)) → κ id = κ0 id) →
      (∀ id b, κ id = some b → κ0 id = some b ∨ w0.heap.size ≤ b.blk ∨ ∃ i x, κ0 i = some x ∧ x.blk = b.blk ∧ h'.wr.testBit i = true) →
      (∀ k, k < w0.heap.size → (∀ id b, κ0 id = some b → b.blk = k → h'.wr.testBit id = false) → w.heap[k]? = w0.heap[k]?) → Same w0 w →
      wpAny P .any ops Q fuel listed a w := by
    have ready_all : ∀ (listed : Array Bool), listed.size = ops.size → Region.ready .any ops listed = [] → ∀ j, j < ops.size → S listed j = true := by
      intro listed hsz hr j
      induction j using Nat.strongRecOn with
      | _ j ihj =>
        intro hj
        cases hS : S listed j with
        | true => rfl
        | false =>
          have : j ∈ Region.ready .any ops listed := by
            rw [mem_ready]
            obtain ⟨o, ho⟩ : ∃ o, ops[j]? = some o := ⟨_, Array.getElem?_eq_getElem hj⟩
            refine ⟨?_, o, ho, fun e he hb => ?_⟩
            · simp only [S, Array.getD_eq_getD_getElem?] at hS ⊢
              rw [Array.getElem?_eq_getElem (by omega)] at hS ⊢
              simpa using hS
            · have hon : e.on ∈ bindsOn o := by
                unfold bindsOn
                exact List.mem_map.2 ⟨e, List.mem_filter.2 ⟨by simpa using he, hb⟩, rfl⟩
              have hlt := htop j o ho e.on hon
              exact ihj e.on hlt (by omega)
          rw [hr] at this; cases this
    have finish : ∀ (listed : Array Bool) (κ : K) (a : Act) (w : World), (∀ j, j < ops.size → S listed j = true) → Rel P κ (st G0 W c (S listed) ops.size) w → (∀ t, VR κ (st f.get D cF (S listed) ops.size t) (a.tmps.getD t undef)) → a.tmps.size = f.n → a.defers = a0.defers →
        κ0.le κ → (∀ id, (∀ j, j < ops.size → S listed j = true → ¬ ((Hs j).n ≤ id ∧ id < (Ps j).n)) → κ id = κ0 id) →
        (∀ id b, κ id = some b → κ0 id = some b ∨ w0.heap.size ≤ b.blk ∨ ∃ i x, κ0 i = some x ∧ x.blk = b.blk ∧ h'.wr.testBit i = true) →
        (∀ k, k < w0.heap.size → (∀ id b, κ0 id = some b → b.blk = k → h'.wr.testBit id = false) → w.heap[k]? = w0.heap[k]?) → Same w0 w → Q .normal a w := by
      intro listed κ a w hall hrel hfr hsz hdef hle hdom hnew hkeep hsame
      refine hq κ a w ?_ ⟨by rw [hsz, ← fnall ops.size (Nat.le_refl _), hFn], fun t => ?_⟩ hdef ⟨hle, fun id hid => hdom id fun j hj _ hin => hid ?_, hnew, hkeep, hsame⟩
      · have : st G0 W c (S listed) ops.size = merge h h' G0 := by
          funext id
          rw [st_below ops.size (fun j hj hS => by rw [hall j hj] at hS; cases hS)]
          unfold merge
          by_cases hm : (h.n ≤ id ∧ id < h'.n) ∨ h'.wr.testBit id = true
          · rw [if_pos hm, allG ops.size (Nat.le_refl _) id ?_ ?_, hHn]
            · rw [hHn]
              rcases hm with hm | hm
              · exact hm.2
              · exact hwf'.wr id hm
            · rcases hm with hm | hm
              · exact .inr hm.1
              · exact .inl (by simp [AH.touched, hm])
          · rw [if_neg hm]
            refine st_none _ fun j hj _ hw => hm ?_
            rcases hw with hw | ⟨h1, h2⟩
            · exact .inr (wrfin j hj id hw)
            · left
              have := nmono 0 j (Nat.zero_le _) (by omega)
              rw [hH0] at this
              have h3 := nmono (j + 1) ops.size (by omega) (Nat.le_refl _)
              rw [nstep j hj, hHn] at h3
              omega
        rw [← this]; exact hrel
      · have := hfr t
        rw [st_below ops.size (fun j hj hS => by rw [hall j hj] at hS; cases hS), allF ops.size (Nat.le_refl _), hFn] at this
        exact this
      · have := nmono 0 j (Nat.zero_le _) (by omega)
        rw [hH0] at this
        have h3 := nmono (j + 1) ops.size (by omega) (Nat.le_refl _)
        rw [nstep j hj, hHn] at h3
        omega
    intro fuel
    induction fuel with
    | zero =>
      intro listed κ a w hsz hleft hdown hrel hfr hts hdef hle hdom hnew hkeep hsame
      have hall : ∀ j, j < ops.size → listed.getD j true = true := by
        intro j hj
        cases hl : listed.getD j true with
        | true => rfl
        | false =>
          have : j ∈ (List.range ops.size).filter fun i => !listed.getD i true := List.mem_filter.2 ⟨by simpa using hj, by simp [hl]⟩
          have : 0 < left listed ops.size := List.length_pos_of_mem this
          omega
      have hallS : ∀ j, j < ops.size → S listed j = true := fun j hj => by
        have := hall j hj
        simp only [S, Array.getD_eq_getD_getElem?] at this ⊢
        rw [Array.getElem?_eq_getElem (by omega)] at this ⊢
        simpa using this
      refine ⟨?_, finish listed κ a w hallS hrel hfr hts hdef hle hdom hnew hkeep hsame⟩
      rw [List.eq_nil_iff_forall_not_mem]
      intro j hj
      obtain ⟨h0, o, ho, _⟩ := mem_ready.1 hj
      rw [hall j (Array.getElem?_eq_some_iff.1 ho).1] at h0; cases h0
    | succ fuel ih =>
      intro listed κ a w hsz hleft hdown hrel hfr hts hdef hle hdom hnew hkeep hsame
      refine ⟨fun hr => finish listed κ a w (ready_all listed hsz hr) hrel hfr hts hdef hle hdom hnew hkeep hsame, fun i hi => ?_⟩
      obtain ⟨h0, o, ho, hpre⟩ := mem_ready.1 hi
      have hin : i < ops.size := (Array.getElem?_eq_some_iff.1 ho).1
      have hSi : S listed i = false := by
        simp only [S, Array.getD_eq_getD_getElem?] at h0 ⊢
        rw [Array.getElem?_eq_getElem (by omega)] at h0 ⊢
        simpa using h0
      have hpreS : ∀ d ∈ bindsOn o, S listed d = true := by
        intro d hd
        unfold bindsOn at hd
        obtain ⟨e, he, rfl⟩ := List.mem_map.1 hd
        obtain ⟨he1, he2⟩ := List.mem_filter.1 he
        exact hpre e (by simpa using he1) he2
      have hplanS := hplan (S listed) hdown
      have before : ∀ j, j < i → S listed j = false → (∀ id, (Ps i).touched id = true ∨ W i id → ¬ W j id) ∧ (∀ t ∈ o.looksAt ops, ¬ D j t) := by
        intro j hj hSj
        obtain ⟨hp, oj, hoj, hap⟩ := hplanS i j o hj ho (.inr hpreS) hSj
        have hfoot := fun id => drawOk_spec hok hp (hft j (by omega)) (hft i hin) id
        refine ⟨fun id hid hw => ?_, fun t ht ⟨o', ho', hd', _⟩ => ?_⟩
        · have h1 := (hfoot id).1 ((foot_snd _ _ _).2 hw)
          rw [foot_fst] at h1
          rcases hid with hid | hid
          · rw [hid] at h1; exact absurd h1.1 (by simp)
          · have := (foot_snd (Hs i) (Ps i) id).2 hid
            rw [this] at h1; exact absurd h1.2 (by simp)
        · rw [hoj] at ho'; cases ho'
          exact (Oper.apart_spec hap).1 t hd' ht
      have after : ∀ j, i < j → j < ops.size → S listed j = true → (∀ id, (Ps i).touched id = true ∨ W i id → ¬ W j id) ∧ (∀ t ∈ o.looksAt ops, ¬ D j t) ∧ (∀ t, D i t → ¬ D j t) := by
        intro j hj hjn hSj
        obtain ⟨oj, hoj⟩ : ∃ oj, ops[j]? = some oj := ⟨_, Array.getElem?_eq_getElem hjn⟩
        obtain ⟨hp, o', ho', hap⟩ := hplanS j i oj hj hoj (.inl hSj) hSi
        rw [ho] at ho'; cases ho'
        have hfoot := fun id => drawOk_spec hok hp (hft i hin) (hft j hjn) id
        refine ⟨fun id hid hw => ?_, fun t ht ⟨o', ho', hd', _⟩ => ?_, fun t ⟨o1, ho1, hd1, _⟩ ⟨o2, ho2, hd2, _⟩ => ?_⟩
        · rcases hid with hid | hid
          · have h1 := (hfoot id).2 ((foot_snd _ _ _).2 hw)
            rw [foot_fst, hid] at h1; cases h1
          · have h1 := (hfoot id).1 ((foot_snd _ _ _).2 hid)
            have := (foot_snd (Hs j) (Ps j) id).2 hw
            rw [this] at h1; exact absurd h1.2 (by simp)
        · rw [hoj] at ho'; cases ho'
          exact (Oper.apart_spec hap).2.2 t hd' ht
        · rw [ho] at ho1; cases ho1
          rw [hoj] at ho2; cases ho2
          exact (Oper.apart_spec hap).2.1 t hd1 hd2
      have hlook : ∀ t ∈ o.looksAt ops, VR κ ((Fs i).get t) (a.tmps.getD t undef) := by
        intro t ht
        have := hfr t
        rw [st_A hSi (fun j hj hS => (before j hj hS).2 t ht) ops.size (by omega) (fun j h1 h2 h3 => (after j h1 h2 h3).2.1 t ht), allF i (by omega)] at this
        exact this
      have hagree : Agree (zeroB (Hs i)) (Ps i) (st G0 W c (S listed) ops.size) := by
        intro id hid ht
        have hid' : id < (Hs i).n := hid
        rw [st_A hSi (fun j hj hS => (before j hj hS).1 id (.inl ht)) ops.size (by omega) (fun j h1 h2 h3 => (after j h1 h2 h3).1 id (.inl ht)), allG i (by omega) id hid' (.inl (tcfin i hin id ht))]
        rfl
      have hfresh : Fresh (zeroB (Hs i)) (Ps i) κ (st G0 W c (S listed) ops.size) := by
        intro id h1 h2
        have h1' : (Hs i).n ≤ id := h1
        have hno : ∀ j, j < ops.size → S listed j = true → ¬ W j id := by
          intro j hj hSj hw
          by_cases hji : j < i
          · have hm := nmono (j + 1) i (by omega) (by omega)
            rw [nstep j hj] at hm
            rcases hw with hw | ⟨_, hw⟩
            · have := (hwp j hj).wr id hw; omega
            · omega
          · by_cases he : j = i
            · subst he; rw [hSi] at hSj; cases hSj
            · exact (after j (by omega) hj hSj).1 id (.inr (.inr ⟨h1', h2⟩)) hw
        have hb : h.n ≤ id ∧ id < h'.n := by
          have := nmono 0 i (Nat.zero_le _) (by omega)
          rw [hH0] at this
          have h3 := nmono (i + 1) ops.size (by omega) (Nat.le_refl _)
          rw [nstep i hin, hHn] at h3
          omega
        have h00 := hfs id hb.1 hb.2
        refine ⟨by rw [st_none _ hno]; exact h00.1, ?_⟩
        rw [hdom id fun j hj hSj hr => hno j hj hSj (.inr hr)]
        exact h00.2
      have hS' : S (listed.setIfInBounds i true) = fun j => if j = i then true else S listed j := by
        funext j
        simp only [S]
        by_cases he : j = i
        · subst he; simp; omega
        · rw [if_neg he, getD_set_ne false (Ne.symm he)]
      have fin : ∀ (κ' : K) (v v' : Value) (w' : World), Fs (i + 1) = (Fs i).put o.dst v → VR κ' v v' → Rel P κ' (merge (zeroB (Hs i)) (Ps i) (st G0 W c (S listed) ops.size)) w' → KX (zeroB (Hs i)) (Ps i) κ κ' w w' →
          wpAny P .any ops Q fuel (listed.setIfInBounds i true) (a.put o.dst v') w' := by
        intro κ' v v' w' hFi hv hrel' hkx
        refine ih _ κ' _ w' (by simpa using hsz) (by have := left_lt hin h0; omega) ?_ ?_ ?_ ?_ ?_ (K.le_trans hle hkx.le) ?_ ?_ ?_ (hsame.trans hkx.same)
        · intro i' o' ho' hSi' d hd
          rw [hS'] at hSi' ⊢
          by_cases he : i' = i
          · subst he
            rw [ho] at ho'; cases ho'
            show (if d = i' then true else S listed d) = true
            by_cases hdi : d = i'
            · rw [if_pos hdi]
            · rw [if_neg hdi]; exact hpreS d hd
          · simp only [he, if_false] at hSi'
            show (if d = i then true else S listed d) = true
            by_cases hdi : d = i
            · rw [if_pos hdi]
            · rw [if_neg hdi]; exact hdown i' o' ho' hSi' d hd
        · have : st G0 W c (S (listed.setIfInBounds i true)) ops.size = merge (zeroB (Hs i)) (Ps i) (st G0 W c (S listed) ops.size) := by
            funext id
            rw [hS', st_B hSi ops.size hin fun j h1 h2 h3 hw => (after j h1 h2 h3).1 id (.inr hw), mergeW]
            by_cases hw : W i id
            · rw [if_pos hw]; exact (if_pos hw).symm
            · rw [if_neg hw]; exact (if_neg hw).symm
          rw [this]; exact hrel'
        · intro t
          rw [hS', st_B hSi ops.size hin fun j h1 h2 h3 hw => (after j h1 h2 h3).2.2 t hw]
          cases hdst : o.dst with
          | none =>
            rw [if_neg (by rintro ⟨o', ho', hd', _⟩; rw [ho] at ho'; cases ho'; rw [hdst] at hd'; cases hd')]
            exact (hfr t).mono hkx.le
          | some d =>
            rw [act_put, hts]
            by_cases hD : t = d ∧ d < f.n
            · obtain ⟨rfl, hlt⟩ := hD
              rw [if_pos (show D i t from ⟨o, ho, hdst, hlt⟩), if_pos ⟨rfl, hlt⟩]
              show VR κ' ((Fs (i + 1)).get t) v'
              rw [hFi, hdst, Fr.get_put _ (by rw [fnall i (by omega)]; exact hsm), if_pos ⟨rfl, by rw [fnall i (by omega)]; exact hlt⟩]
              exact hv
            · rw [if_neg hD, if_neg (show ¬ D i t from ?_)]
              · exact (hfr t).mono hkx.le
              · rintro ⟨o', ho', hd', hlt⟩
                rw [ho] at ho'; cases ho'
                rw [hdst] at hd'; cases hd'
                exact hD ⟨rfl, hlt⟩
        · rw [← hts]; cases o.dst <;> simp [Act.put]
        · rw [← hdef]; cases o.dst <;> rfl
        · intro id hid
          have h1 : κ' id = κ id := hkx.dom id (hid i hin (by rw [hS']; simp))
          rw [h1]
          refine hdom id fun j hj hSj => hid j hj ?_
          rw [hS']
          show (if j = i then true else S listed j) = true
          by_cases hdi : j = i
          · rw [if_pos hdi]
          · rw [if_neg hdi]; exact hSj
        · intro id b hb
          rcases hkx.new id b hb with h1 | h1 | ⟨i', x, hx, hxb, hw⟩
          · exact hnew id b h1
          · exact .inr (.inl (Nat.le_trans hsame.size h1))
          · rcases hnew i' x hx with h2 | h2 | ⟨i2, y, hy, hyb, hw2⟩
            · exact .inr (.inr ⟨i', x, h2, hxb, wrfin i hin i' hw⟩)
            · exact .inr (.inl (by omega))
            · exact .inr (.inr ⟨i2, y, hy, hyb.trans hxb, hw2⟩)
        · intro k hk hcond
          rw [hkx.keep k (Nat.lt_of_lt_of_le hk hsame.size), hkeep k hk hcond]
          intro id b hb hbk
          cases hw : (Ps i).wr.testBit id with
          | false => rfl
          | true =>
            rcases hnew id b hb with h2 | h2 | ⟨i2, y, hy, hyb, hw2⟩
            · have := hcond id b h2 hbk; rw [wrfin i hin id hw] at this; cases this
            · omega
            · have := hcond i2 y hy (hyb.trans hbk); rw [hw2] at this; cases this
      unfold wpOp
      rw [ho]
      simp only []
      rw [yielded_rel (f := Fs i) (κ := κ) hlook]
      have hs1 := hst i hin
      unfold stepOp at hs1
      rw [ho] at hs1
      simp only [] at hs1
      cases hw : Region.wanted o (yieldedA ops (Fs i)) with
      | false =>
        rw [hw] at hs1
        simp only [cond_false, Option.some.injEq, Prod.mk.injEq] at hs1
        simp only [Bool.false_eq_true, if_false]
        have hag0 : Agree (zeroB (Hs i)) (zeroB (Hs i)) (st G0 W c (S listed) ops.size) := fun id _ ht => by simp [AH.touched, zeroB] at ht
        refine fin κ undef undef w hs1.1.symm (VR.flat _ undef_flat) ?_ ?_
        · rw [← hs1.2, merge_self (wf_zeroB (hwf i hin)) hag0]; exact hrel
        · rw [← hs1.2]; exact KX.refl _ _ _
      | true =>
        rw [hw] at hs1
        simp only [cond_true] at hs1
        simp only [if_true]
        left
        split at hs1
        · rename_i v h1' hev
          simp only [Option.some.injEq, Prod.mk.injEq] at hs1
          obtain ⟨hFi, hPi⟩ := hs1
          rw [hPi] at hev
          obtain ⟨_, hop⟩ := hs _ _ _ _ _ hev (wf_zeroB (hwf i hin))
          refine hop κ _ a w _ Q (hg0.mono hle) hrel hagree hfresh (fun t ht => hlook t ?_) fun κ' v' w' hv hrel' hkx => fin κ' v v' w' hFi.symm hv hrel' hkx
          unfold Oper.looksAt
          exact List.mem_append_left _ (List.mem_filterMap.2 ⟨.tmp t, by simpa using ht, rfl⟩)
        · cases hs1
  have hS0 : ∀ i, S (Array.replicate ops.size false) i = false := by
    intro i
    simp only [S, Array.getD_eq_getD_getElem?, Array.getElem?_replicate]
    split <;> rfl
  refine main ops.size _ κ0 a0 w0 (by simp) ?_ ?_ ?_ ?_ hfr0.size rfl (K.le_refl _) (fun _ _ => rfl) (fun _ _ e => .inl e) (fun _ _ _ => rfl) (Same.refl _)
  · unfold left
    exact Nat.le_trans (List.length_filter_le _ _) (by simp)
  · intro i o ho hS
    rw [hS0] at hS; cases hS
  · have : st G0 W c (S (Array.replicate ops.size false)) ops.size = G0 := by
      funext id
      refine st_none _ fun j _ hS => ?_
      rw [hS0] at hS; cases hS
    rw [this]; exact hrel0
  · intro t
    have : st f.get D cF (S (Array.replicate ops.size false)) ops.size t = f.get t := by
      refine st_none _ fun j _ hS => ?_
      rw [hS0] at hS; cases hS
    rw [this]; exact hfr0.at_ t
end
end Go.Ev
