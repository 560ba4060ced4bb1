/- Regions: in the order of the text, and in any order that their edges allow. Holds for every program. -/
import Derived.Test.YtnfijnioclcnmaaDoorEvFrame
namespace Go.Ev
open Go

abbrev OpEv := Fr → Oper → AH → Option (Value × AH)
def OpSound (P : Program) (gl : Nat) (ev : OpEv) : Prop :=
  ∀ f o h v h', ev f o h = some (v, h') → WF h → (Ext h h' ∧ WF h') ∧
    ∀ (κ : K) (G : Nat → Option AObj) (a : Act) (w : World) (K' : Act → World → Prop) (Q : Exit → Act → World → Prop), KG gl κ → Rel P κ G w → Agree h h' G → Fresh h h' κ G →
      (∀ t, Operand.tmp t ∈ o.op.operands → VR κ (f.get t) (a.tmps.getD t undef)) →
      (∀ κ' v' w', VR κ' v v' → Rel P κ' (merge h h' G) w' → KX h h' κ κ' w w' → K' (a.put o.dst v') w') → o.wp P a w K' Q

def yieldedA (ops : Array Oper) (f : Fr) (j : Nat) : Option Bool :=
  match (ops[j]?).bind (·.dst) with
  | some d => match f.get d with
    | .bool b => some b
    | _ => none
  | none => none
def stepOp (ev : OpEv) (ops : Array Oper) (i : Nat) (f : Fr) (h : AH) : Option (Fr × AH) :=
  match ops[i]? with
  | none => some (f, h)
  | some o =>
    cond (Region.wanted o (yieldedA ops f))
      (match ev f o h with
        | some (v, h1) => some (f.put o.dst v, h1)
        | none => none)
      (some (f.put o.dst undef, h))
def runOps (ev : OpEv) (ops : Array Oper) : List Nat → Fr → AH → Option (Fr × AH)
  | [], f, h => some (f, h)
  | i :: l, f, h => match stepOp ev ops i f h with
    | some (f1, h1) => runOps ev ops l f1 h1
    | none => none

section
variable {P : Program} {gl : Nat} {ev : OpEv} {ops : Array Oper}

theorem yielded_rel {κ : K} {f : Fr} {a : Act} {o : Oper} (h : ∀ t ∈ o.looksAt ops, VR κ (f.get t) (a.tmps.getD t undef)) :
    Region.wanted o (yielded ops a.tmps) = Region.wanted o (yieldedA ops f) := by
  unfold Region.wanted
  cases hg : o.guard with
  | none => rfl
  | some gw =>
    obtain ⟨g, want⟩ := gw
    have : yielded ops a.tmps g = yieldedA ops f g := by
      unfold yielded yieldedA
      cases hd : (ops[g]?).bind (·.dst) with
      | none => rfl
      | some d =>
        have hv := h d (by simp [Oper.looksAt, hg, hd])
        simp only [Option.bind_some]
        have e1 : a.tmps.getD d undef = (a.tmps[d]?).getD undef := Array.getD_eq_getD_getElem? ..
        cases ht : a.tmps[d]? with
        | none =>
          rw [e1, ht, Option.getD_none] at hv
          have : f.get d = undef := by
            generalize f.get d = x at hv
            cases hv with
            | tuple hl => cases hl; rfl
          rw [this]; rfl
        | some v =>
          rw [e1, ht, Option.getD_some] at hv
          generalize f.get d = x at hv ⊢
          cases hv <;> rfl
    simp only [this]

theorem stepOp_ext (hs : OpSound P gl ev) {i : Nat} {f f' : Fr} {h h' : AH} (e : stepOp ev ops i f h = some (f', h')) (wf : WF h) : Ext h h' ∧ WF h' ∧ f'.n = f.n := by
  unfold stepOp at e
  split at e
  · cases e; exact ⟨Ext.refl _, wf, rfl⟩
  · rename_i o ho
    cases hw : Region.wanted o (yieldedA ops f) with
    | false => rw [hw] at e; cases e; exact ⟨Ext.refl _, wf, Fr.n_put _ _ _⟩
    | true =>
      rw [hw] at e
      simp only [cond_true] at e
      split at e
      · rename_i v h1 hev
        cases e
        have := (hs _ _ _ _ _ hev wf).1
        exact ⟨this.1, this.2, Fr.n_put _ _ _⟩
      · cases e

theorem FrR.put_only {κ : K} {f : Fr} {a : Act} (h : FrR κ f a) (hs : small f.n = true) (dst : Option Tmp) {v v' : Value} (hv : VR κ v v') : FrR κ (f.put dst v) (a.put dst v') := h.put hs dst hv

theorem runOps_sound (hs : OpSound P gl ev) : ∀ (l : List Nat) (f : Fr) (h : AH) (f' : Fr) (h' : AH), runOps ev ops l f h = some (f', h') → WF h → small f.n = true →
    (Ext h h' ∧ WF h' ∧ f'.n = f.n) ∧ ∀ (κ : K) (G : Nat → Option AObj) (a : Act) (w : World) (Q : Exit → Act → World → Prop), KG gl κ → Rel P κ G w → FrR κ f a → Agree h h' G → Fresh h h' κ G →
      (∀ κ' a' w', Rel P κ' (merge h h' G) w' → FrR κ' f' a' → a'.defers = a.defers → KX h h' κ κ' w w' → Q .normal a' w') → wpOps P ops Q l a w := by
  intro l
  induction l with
  | nil =>
    intro f h f' h' e wf hsm
    cases e
    refine ⟨⟨Ext.refl _, wf, rfl⟩, fun κ G a w Q hg hrel hfr hag hfs hq => ?_⟩
    exact hq κ a w (by rw [merge_self wf hag]; exact hrel) hfr rfl (KX.refl _ _ _)
  | cons i l ih =>
    intro f h f' h' e wf hsm
    simp only [runOps] at e
    cases hst : stepOp ev ops i f h with
    | none => rw [hst] at e; cases e
    | some x =>
      obtain ⟨f1, h1⟩ := x
      rw [hst] at e
      simp only [] at e
      obtain ⟨x1, wf1, hn1⟩ := stepOp_ext hs hst wf
      obtain ⟨⟨x2, wf2, hn2⟩, ih2⟩ := ih f1 h1 f' h' e wf1 (by rw [hn1]; exact hsm)
      refine ⟨⟨x1.trans x2, wf2, hn2.trans hn1⟩, fun κ G a w Q hg hrel hfr hag hfs hq => ?_⟩
      rw [wpOps_cons]
      unfold wpOp
      unfold stepOp at hst
      cases ho : ops[i]? with
      | none =>
        rw [ho] at hst
        cases hst
        exact ih2 κ G a w Q hg hrel hfr hag hfs hq
      | some o =>
        rw [ho] at hst
        simp only [] at hst ⊢
        rw [yielded_rel (f := f) (κ := κ) fun t _ => hfr.at_ t]
        cases hw : Region.wanted o (yieldedA ops f) with
        | false =>
          rw [hw] at hst
          cases hst
          simp only [Bool.false_eq_true, if_false]
          refine ih2 κ G (a.put o.dst undef) w Q hg hrel (hfr.put hsm o.dst (VR.flat _ undef_flat)) hag hfs fun κ' a' w' h1 h2 h3 h4 => hq κ' a' w' h1 h2 ?_ h4
          rw [h3]
          cases o.dst <;> rfl
        | true =>
          rw [hw] at hst
          simp only [cond_true] at hst
          simp only [if_true]
          left
          split at hst
          · rename_i v h1' hev
            cases hst
            obtain ⟨_, hop⟩ := hs _ _ _ _ _ hev wf
            refine hop κ G a w _ Q hg hrel (hag.left x2) (hfs.left x2) (fun t _ => hfr.at_ t) fun κ1 v' w1 hv hrel1 hkx1 => ?_
            refine ih2 κ1 _ (a.put o.dst v') w1 Q (hg.mono hkx1.le) hrel1 ((hfr.mono hkx1.le).put hsm o.dst hv) (hag.right x1)
              (hfs.right x1 hkx1 fun id _ hw => wf1.wr id hw) fun κ' a' w' q1 q2 q3 q4 => hq κ' a' w' ?_ q2 ?_ (hkx1.trans x1 x2 q4)
            · rw [merge_merge x1 x2] at q1; exact q1
            · rw [q3]; cases o.dst <;> rfl
          · cases hst
end
end Go.Ev
