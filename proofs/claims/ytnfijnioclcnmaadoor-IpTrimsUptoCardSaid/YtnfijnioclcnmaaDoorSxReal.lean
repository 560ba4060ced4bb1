/- What a run with hints gathers holds: then the calls and the code come to what it says. Holds for every program. -/
import Derived.Test.YtnfijnioclcnmaaDoorSxBase
namespace Go.Ev
open Go Go.RowKit

structure Hints.Ok (H : Hints) (P : Program) (gl : Nat) : Prop where
  call : ∀ g args h en h1 pre, H.call g args h = some ((en, h1), pre) → All pre → CTup P gl g args h en h1
  block : ∀ g id c f h ex f1 h1 pre, H.block g id c f h = some ((ex, f1, h1), pre) → All pre → LTup P gl (.block id c) f h ex f1 h1

open Classical in
noncomputable def ovF (H : Hints) (F : RecF) : RecF := fun g args h => match H.call g args h with
  | some (r, pre) => if All pre then some r else F g args h
  | none => F g args h
open Classical in
noncomputable def ovC (H : Hints) (cur : FuncId) (C : RecC) : RecC := fun code f h => match code with
  | .block id c => match H.block cur id c f h with
    | some (r, pre) => if All pre then some r else C (.block id c) f h
    | none => C (.block id c) f h
  | c => C c f h
section
variable {P : Program} {gl : Nat} {H : Hints}
theorem ovF_sound (hH : H.Ok P gl) {F : RecF} (hF : CallSound P gl F) : CallSound P gl (ovF H F) := by
  intro g args h en h' e wf
  unfold ovF at e
  split at e
  · rename_i r pre hr
    split at e
    · rename_i hp; cases e; exact hH.call g args h en h' pre hr hp wf
    · exact hF g args h en h' e wf
  · exact hF g args h en h' e wf
theorem ovC_sound (hH : H.Ok P gl) {cur : FuncId} {C : RecC} (hC : CodeSound P gl C) : CodeSound P gl (ovC H cur C) := by
  intro code f h ex f' h' e wf hs
  unfold ovC at e
  split at e
  · split at e
    · rename_i r pre hr
      split at e
      · rename_i hp; cases e; exact hH.block _ _ _ f h ex f' h' pre hr hp wf hs
      · exact hC _ f h ex f' h' e wf hs
    · exact hC _ f h ex f' h' e wf hs
  · exact hC _ f h ex f' h' e wf hs

noncomputable def realR (P : Program) (gl : Nat) (H : Hints) (n : Nat) : (FuncId → RecC) × RecF :=
  Nat.rec (fun _ _ _ _ => none, fun _ _ _ => none)
    (fun m r => (fun cur => ovC H cur (stepC P gl (evR P gl r.2) r.2 (r.1 cur)), ovF H fun g args h => stepF P (r.1 g) (run P gl (sp0 P gl) m).2.2.2 g args h)) n
theorem realR_sound (hz : ZerosFlat P) (hm : P.follows .mixedOrders = true) (hH : H.Ok P gl) : ∀ n, (∀ cur, CodeSound P gl ((realR P gl H n).1 cur)) ∧ CallSound P gl (realR P gl H n).2
  | 0 => ⟨fun _ _ _ _ _ _ _ e => (by cases e), fun _ _ _ _ _ e => (by cases e)⟩
  | n + 1 => by
    obtain ⟨h1, h2⟩ := realR_sound hz hm hH n
    obtain ⟨_, _, _, h4⟩ := run_sound hz hm (special_sound (P := P) (gl := gl)) n
    have hev : OpSound P gl (evR P gl (realR P gl H n).2) := special_sound.or (aop_sound hz h2)
    refine ⟨fun cur => ovC_sound hH (stepC_sound hm hev h2 (h1 cur)), ovF_sound hH fun g args h en h' e wf => ?_⟩
    exact stepF_sound (h1 g) h4 g args h en h' e wf

theorem All.left {ps qs : List Prop} (h : All (ps ++ qs)) : All ps := fun p hp => h p (by simp [hp])
theorem All.right {ps qs : List Prop} (h : All (ps ++ qs)) : All qs := fun p hp => h p (by simp [hp])
theorem All.one {p : Prop} (h : All [p]) : p := h p (by simp)

variable {cur : FuncId} {F : RecF} {FH : RecFH} {C : RecC} {CH : RecCH}
def AgF (F : RecF) (FH : RecFH) : Prop := ∀ g args h r ps, FH g args h = some (r, ps) → All ps → F g args h = some r
def AgC (C : RecC) (CH : RecCH) : Prop := ∀ c f h r ps, CH c f h = some (r, ps) → All ps → C c f h = some r

theorem noCall_key {f : Fr} {o : Oper} {h : AH} (hc : isCall P f o = none) {r : Value × AH} (hr : evR P gl noF f o h = some r) : evR P gl F f o h = some r := by
  unfold evR orEv at hr ⊢
  rw [aop_noCall hc F]; exact hr
theorem baseH_eq (hF : AgF F FH) {f : Fr} {o : Oper} {h : AH} {r : Value × AH} {ps : List Prop} (e : baseH P gl FH f o h = some (r, ps)) (hp : All ps) : evR P gl F f o h = some r := by
  unfold baseH at e
  split at e
  · rename_i g args hc
    unfold evR orEv
    split at e
    · rename_i r' hs; cases e; rw [hs]
    · rename_i hs
      rw [hs]
      simp only []
      rw [aop_call hc]
      cases hok : o.op.operands.toList.all (operandOk gl) with
      | false => rw [hok] at e; cases e
      | true =>
        rw [hok] at e
        simp only [cond_true] at e ⊢
        split at e
        · rename_i v h1 qs hf; cases e; rw [hF _ _ _ _ _ hf hp]
        · cases e
  · rename_i hc
    split at e
    · rename_i hr; cases e; exact noCall_key hc hr
    · cases e
theorem evH_eq (hF : AgF F FH) {f : Fr} {o : Oper} {h : AH} {r : Value × AH} {ps : List Prop} (e : evH P gl H cur FH f o h = some (r, ps)) (hp : All ps) : evR P gl F f o h = some r := by
  unfold evH at e
  split at e
  · rename_i c hh
    split at e
    · cases e
    · rename_i hc
      exact noCall_key hc (c.ok _ _ _ _ _ _ _ hc e hp)
  · split at e
    · rename_i r0 hb
      obtain ⟨⟨v0, h0⟩, qs⟩ := r0
      unfold refineH at e
      split at e
      · cases e; exact baseH_eq hF hb hp
      · split at e
        · rename_i b h1 ps' heq
          cases heq
          cases e
          have hb1 := hp _ (List.mem_cons_self ..)
          rw [baseH_eq hF hb fun p hq => hp p (List.mem_cons_of_mem _ hq), hb1]
        · cases e
      · split at e
        · rename_i k n h1 ps' heq
          cases heq
          cases e
          have hb1 := hp _ (List.mem_cons_self ..)
          rw [baseH_eq hF hb fun p hq => hp p (List.mem_cons_of_mem _ hq), hb1]
        · cases e
      · cases e
    · cases e
theorem evH_none {f : Fr} {o : Oper} {h : AH} (hc : isCall P f o = none) (e : evR P gl noF f o h = none) : evR P gl F f o h = none := by
  unfold evR orEv at e ⊢
  rw [aop_noCall hc F]; exact e
theorem actA_noCall {f : Fr} {o : Oper} (h : isCall P f o = none) (hp : AH) : actA P F o f hp = actA P noF o f hp := by
  unfold isCall at h
  unfold actA
  split
  · rfl
  · rfl
  · rename_i c ho
    rw [ho] at h
    simp only [] at h
    split
    · rfl
    · rename_i hb
      split at h
      · rename_i b hbb
        have : calleeA P f.eval c = none := by unfold calleeA; rw [hbb]
        rw [this]
      · rw [h]
  · rfl
theorem oneH_eq (hF : AgF F FH) {f : Fr} {o : Oper} {h : AH} {r : AExit × Fr × AH} {ps : List Prop} (e : oneH P gl H cur FH f o h = some (r, ps)) (hp : All ps) : oneA P gl F (evR P gl F) o f h = some r := by
  unfold oneH at e
  unfold oneA
  split at e
  · rename_i v h1 qs he
    cases e
    rw [evH_eq hF he hp]
  · cases hok : o.op.operands.toList.all (operandOk gl) with
    | false => rw [hok] at e; cases e
    | true =>
      rw [hok] at e
      simp only [cond_true] at e
      split at e
      · rename_i g args hc
        split at e
        · cases e
        · rename_i hs
          split at e
          · rename_i v h1 qs hf
            cases e
            have hf' := hF _ _ _ _ _ hf hp
            have hn : evR P gl F f o h = none := by
              unfold evR orEv; rw [hs]; simp only []; rw [aop_call hc, hok, hf']; rfl
            rw [hn]
            simp only [cond_true]
            unfold isCall at hc
            unfold actA
            split at hc
            · rename_i c ho
              rw [ho]
              split at hc
              · cases hc
              · rename_i hb
                simp only []
                split
                · rename_i hcc; exact absurd hcc (hb _)
                · rw [hc]; simp only []; rw [hf']
            · cases hc
          · cases e
      · rename_i hc
        split at e
        · rename_i r' hh hev hact
          cases e
          rw [evH_none hc hev]
          simp only [cond_true]
          rw [actA_noCall hc]; exact hact
        · cases e
theorem runH_eq (hF : AgF F FH) {ops : Array Oper} : ∀ (l : List Nat) (f : Fr) (h : AH) (r : AExit × Fr × AH) (ps : List Prop), runH P gl H cur FH ops l f h = some (r, ps) → All ps → runA P gl F (evR P gl F) ops l f h = some r
  | [], f, h, r, ps, e, hp => by cases e; rfl
  | i :: l, f, h, r, ps, e, hp => by
    simp only [runH] at e
    simp only [runA]
    split at e
    · rename_i ho
      rw [ho]
      exact runH_eq hF l f h r ps e hp
    · rename_i o ho
      rw [ho]
      simp only []
      cases hw : Region.wanted o (yieldedA ops f) with
      | false => rw [hw] at e; exact runH_eq hF l _ h r ps e hp
      | true =>
        rw [hw] at e
        simp only [cond_true] at e ⊢
        split at e
        · rename_i f1 h1 qs h1e
          split at e
          · rename_i r2 q2 h2e
            cases e
            rw [oneH_eq hF h1e hp.left]
            exact runH_eq hF l f1 h1 _ _ h2e hp.right
          · cases e
        · rename_i hne
          have := oneH_eq hF e hp
          rw [this]
          obtain ⟨x, y, z⟩ := r
          cases x with
          | normal => exact absurd e (hne y z ps)
          | _ => rfl
theorem stepOpH_eq (hF : AgF F FH) {ops : Array Oper} {i : Nat} {f : Fr} {h : AH} {r : Fr × AH} {ps : List Prop} (e : stepOpH P gl H cur FH ops i f h = some (r, ps)) (hp : All ps) : stepOp (evR P gl F) ops i f h = some r := by
  unfold stepOpH at e
  unfold stepOp
  split at e
  · rename_i ho; rw [ho]; cases e; rfl
  · rename_i o ho
    rw [ho]
    simp only []
    cases hw : Region.wanted o (yieldedA ops f) with
    | false => rw [hw] at e; cases e; rfl
    | true =>
      rw [hw] at e
      simp only [cond_true] at e ⊢
      split at e
      · rename_i v h1 qs he; cases e; rw [evH_eq hF he hp]
      · cases e
theorem drawOpsH_eq (hF : AgF F FH) {ops : Array Oper} : ∀ (k i : Nat) (f : Fr) (h : AH) (r : Fr × AH × List (Nat × Nat)) (ps : List Prop), drawOpsH P gl H cur FH ops k i f h = some (r, ps) → All ps → drawOps (evR P gl F) ops k i f h = some r
  | 0, i, f, h, r, ps, e, hp => by cases e; rfl
  | k + 1, i, f, h, r, ps, e, hp => by
    simp only [drawOpsH] at e
    simp only [drawOps]
    split at e
    · rename_i f1 h1 qs h1e
      split at e
      · rename_i f2 h2 l q2 h2e
        cases e
        rw [stepOpH_eq hF h1e hp.left]
        simp only []
        rw [drawOpsH_eq hF k (i + 1) f1 _ _ _ h2e hp.right]
      · cases e
    · cases e
theorem loopH_eq (hC : AgC C CH) (c : Code) : ∀ (n : Nat) (f : Fr) (h : AH) (r : AExit × Fr × AH) (ps : List Prop), loopH CH c n f h = some (r, ps) → All ps → loopA C c n f h = some r
  | 0, f, h, r, ps, e, hp => by cases e
  | n + 1, f, h, r, ps, e, hp => by
    simp only [loopH] at e
    simp only [loopA]
    split at e
    · rename_i f1 h1 qs h1e
      split at e
      · rename_i r2 q2 h2e
        cases e
        rw [hC _ _ _ _ _ h1e hp.left]
        exact loopH_eq hC c n f1 h1 _ _ h2e hp.right
      · cases e
    · rename_i hne
      have := hC _ _ _ _ _ e hp
      rw [this]
      obtain ⟨x, y, z⟩ := r
      cases x with
      | normal => exact absurd e (hne y z ps)
      | _ => rfl
theorem scopeH_eq (hC : AgC C CH) (body : Code) : ∀ (n : Nat) (c : Code) (f : Fr) (h : AH) (r : AExit × Fr × AH) (ps : List Prop), scopeH CH body n c f h = some (r, ps) → All ps → scopeA C body n c f h = some r
  | 0, c, f, h, r, ps, e, hp => by cases e
  | n + 1, c, f, h, r, ps, e, hp => by
    simp only [scopeH] at e
    simp only [scopeA]
    split at e
    · rename_i l f1 h1 qs h1e
      split at e
      · rename_i rest hl
        split at e
        · rename_i r2 q2 h2e
          cases e
          rw [hC _ _ _ _ _ h1e hp.left]
          simp only []
          rw [hl]
          exact scopeH_eq hC body n rest f1 h1 _ _ h2e hp.right
        · cases e
      · rename_i hl
        cases e
        rw [hC _ _ _ _ _ h1e hp]
        simp only []
        rw [hl]
    · rename_i hne
      have := hC _ _ _ _ _ e hp
      rw [this]
      obtain ⟨x, y, z⟩ := r
      cases x with
      | goto l => exact absurd e (hne l y z ps)
      | _ => rfl
theorem stepCH_eq (hF : AgF F FH) (hC : AgC C CH) : AgC (ovC H cur (stepC P gl (evR P gl F) F C)) (stepCH P gl H cur FH CH) := by
  intro c f h r ps e hp
  cases c with
  | block id c =>
    simp only [stepCH] at e
    simp only [ovC]
    split at e
    · rename_i r' hr
      cases e
      rw [hr]
      simp only []
      rw [if_pos hp]
    · rename_i hr
      rw [hr]
      simp only [stepC]
      split at e
      · rename_i id' f1 h1 qs h1e
        cases e
        rw [hC _ _ _ _ _ h1e hp]
      · rename_i hne
        have := hC _ _ _ _ _ e hp
        rw [this]
        obtain ⟨x, y, z⟩ := r
        cases x with
        | exit l => exact absurd e (hne l y z ps)
        | _ => rfl
  | seq a b =>
    simp only [stepCH] at e
    simp only [ovC, stepC]
    split at e
    · rename_i f1 h1 qs h1e
      split at e
      · rename_i r2 q2 h2e
        cases e
        rw [hC _ _ _ _ _ h1e hp.left]
        exact hC _ _ _ _ _ h2e hp.right
      · cases e
    · rename_i hne
      have := hC _ _ _ _ _ e hp
      rw [this]
      obtain ⟨x, y, z⟩ := r
      cases x with
      | normal => exact absurd e (hne y z ps)
      | _ => rfl
  | cond c x y =>
    simp only [stepCH] at e
    simp only [ovC, stepC]
    cases hok : operandOk gl c with
    | false => rw [hok] at e; cases e
    | true =>
      rw [hok] at e
      simp only [cond_true] at e ⊢
      split at e
      · rename_i hv; rw [hv]; exact hC _ _ _ _ _ e hp
      · rename_i hv; rw [hv]; exact hC _ _ _ _ _ e hp
      · cases e
  | loop c => exact loopH_eq hC c _ _ _ _ _ e hp
  | scope b => exact scopeH_eq hC b _ _ _ _ _ _ e hp
  | region id ops draw =>
    simp only [stepCH] at e
    simp only [ovC, stepC]
    cases draw with
    | false => exact runH_eq hF _ _ _ _ _ e hp
    | true =>
      simp only [cond_true] at e ⊢
      unfold regionH at e
      unfold region
      simp only [cond_true]
      split at e
      · rename_i pl hpl
        rw [hpl]
        simp only []
        split at e
        · rename_i f' h' l qs hd
          cases hc : (drawOk pl l && Region.noSelect ops) with
          | false => rw [hc] at e; cases e
          | true =>
            rw [hc] at e
            cases e
            rw [drawOpsH_eq hF _ _ _ _ _ _ hd hp]
            simp only []
            rw [hc]
            rfl
        · cases e
      · cases e
  | rangeFunc => cases e
  | refuse => cases e
  | _ => cases e; rfl
theorem stepFH_eq {Cs : FuncId → RecC} {CHs : FuncId → RecCH} {D : RecD} (hC : ∀ g, AgC (Cs g) (CHs g)) : AgF (ovF H fun g args h => stepF P (Cs g) D g args h) (stepFH P H CHs D) := by
  intro g args h r ps e hp
  unfold stepFH at e
  unfold ovF
  split at e
  · rename_i r' hr
    cases e
    rw [hr]
    simp only []
    rw [if_pos hp]
  · rename_i hr
    rw [hr]
    simp only []
    unfold stepF
    split at e
    · cases e
    · rename_i fn hfn
      rw [hfn]
      simp only []
      split at e
      · cases e
      · rename_i c hc
        rw [hc]
        simp only []
        cases hs : small (args.length + (fn.ntmps - args.length)) with
        | false => rw [hs] at e; cases e
        | true =>
          rw [hs] at e
          simp only [cond_true] at e ⊢
          split at e
          all_goals first
            | (rename_i hce
               split at e
               · rename_i hl
                 cases e
                 rw [hC g _ _ _ _ _ hce hp]
                 exact hl
               · cases e)
            | cases e
theorem runHR_eq : ∀ n, (∀ cur, AgC ((realR P gl H n).1 cur) ((runHR P gl H n).1 cur)) ∧ AgF (realR P gl H n).2 (runHR P gl H n).2
  | 0 => ⟨fun _ _ _ _ _ _ e => (by cases e), fun _ _ _ _ _ e => (by cases e)⟩
  | n + 1 => by
    obtain ⟨h1, h2⟩ := runHR_eq n
    exact ⟨fun cur => stepCH_eq h2 (h1 cur), stepFH_eq h1⟩
/-- What is gathered holds: the call comes to what was reckoned. -/
theorem runHR_call (hz : zerosFlat P = true) (hm : P.follows .mixedOrders = true) (hH : H.Ok P gl) {n : Nat} {g : FuncId} {args : List Value} {h : AH} {en : AEnd} {h1 : AH} {ps : List Prop} (e : (runHR P gl H n).2 g args h = some ((en, h1), ps)) (hp : All ps) :
    CTup P gl g args h en h1 := (realR_sound (zerosFlat_spec hz) hm hH n).2.tup ((runHR_eq n).2 _ _ _ _ _ e hp)
theorem runHR_code (hz : zerosFlat P = true) (hm : P.follows .mixedOrders = true) (hH : H.Ok P gl) {n : Nat} {cur : FuncId} {c : Code} {f : Fr} {h : AH} {ex : AExit} {f1 : Fr} {h1 : AH} {ps : List Prop} (e : (runHR P gl H n).1 cur c f h = some ((ex, f1, h1), ps)) (hp : All ps) :
    LTup P gl c f h ex f1 h1 := ((realR_sound (zerosFlat_spec hz) hm hH n).1 cur).tup ((runHR_eq n).1 cur _ _ _ _ _ e hp)
end
end Go.Ev
