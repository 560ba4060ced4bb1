/- The evaluator as a whole: calls, operations, fuel. Holds for every program. -/
import Derived.Test.YtnfijnioclcnmaaDoorEvGuard
namespace Go.Ev
open Go

inductive AExit where
  | normal
  | exit (id : Nat)
  | goto (l : Nat)
  | ret
  | panic (v : Value)
inductive AEnd where
  | ret (v : Value)
  | pan (v : Value)
inductive AM where
  | ret
  | pan (v : Value) (r : Bool)
abbrev RecC := Code → Fr → AH → Option (AExit × Fr × AH)
abbrev RecF := FuncId → List Value → AH → Option (AEnd × AH)
abbrev RecS := Code → Fr → AM → AH → Option (AExit × Fr × AM × AH)
abbrev RecD := FuncId → List Value → AM → AH → Option (AM × AH)

/-- The method of a dynamic type that stands there itself: its receiver is the value. -/
def methodDirect (P : Program) (t : TypeId) (name : String) : Option FuncId :=
  match P.info? t with
  | none => none
  | some i => match i.methods.toList.find? (·.name == name) with
    | none => none
    | some m => match m.path, m.func, P.underlying t with
      | ⟨[]⟩, some (g, true), some (.pointer _) => some g
      | ⟨[]⟩, some (_, false), some (.pointer _) => none
      | ⟨[]⟩, some (g, false), some _ => some g
      | _, _, _ => none
def hasBody (P : Program) (g : FuncId) : Bool :=
  match P.funcs[g]? with
  | none => false
  | some fn => fn.body.isSome && !(fn.name == "runtime.NumGoroutine")
def calleeA (P : Program) (ρ : Operand → Value) (c : Call) : Option (FuncId × List Value) :=
  match c.callee with
  | .builtin _ => none
  | .invoke recv name => match ρ recv with
    | .iface t v => match methodDirect P t name with
      | some g => cond (hasBody P g) (some (g, v :: c.args.toList.map ρ)) none
      | none => none
    | _ => none
  | .value x => match ρ x with
    | .func (.func g) ⟨first⟩ ⟨captured⟩ => cond (hasBody P g) (some (g, first ++ c.args.toList.map ρ ++ captured)) none
    | _ => none
def appendA (P : Program) (ats : List TypeId) (args : List Value) (h : AH) : Option (Value × AH) :=
  match ats, args with
  | [t, xt], [s, x] => match P.underlying xt with
    | none => none
    | some (.int _) => none
    | some _ => match fitA P t s x h with
      | some r => some r
      | none => growA P t s x h
  | _, _ => none
def plainA (P : Program) (f : Fr) (o : Oper) (h : AH) : Option (Value × AH) :=
  match flatRoute P f.eval o with
  | some v => some (v, h)
  | none => match guardA P f.eval h o.op with
    | none => none
    | some h0 => match arun P (execOp f.eval o) h0 with
      | some (.value v, h1) => some (v, h1)
      | some (.skip, h1) => some (undef, h1)
      | _ => none
def flatA (P : Program) (f : Fr) (o : Oper) (h : AH) : Option (Value × AH) :=
  match flatRoute P f.eval o with
  | some v => some (v, h)
  | none => none
def aop (P : Program) (gl : Nat) (recF : RecF) : OpEv := fun f o h =>
  cond (o.op.operands.toList.all (operandOk gl))
    (match o.op with
      | .call c => match c.callee with
        | .builtin .append => appendA P c.argTypes.toList (c.args.toList.map f.eval) h
        | .builtin _ => plainA P f o h
        | _ => match calleeA P f.eval c with
          | some (g, args) => match recF g args h with
            | some (.ret v, h1) => some (v, h1)
            | _ => none
          | none => flatA P f o h
      | .select _ _ => none
      | _ => plainA P f o h) none
section
variable {P : Program} {gl : Nat}

theorem wp_of_gives {o : Oper} {a : Act} {w w' : World} {v' : Value} {K' : Act → World → Prop} {Q : Exit → Act → World → Prop} (h : OpGives P o a w v' w') (hk : K' (a.put o.dst v') w') : o.wp P a w K' Q := by
  unfold Oper.wp
  rcases h with h | ⟨h, rfl⟩
  · rw [h]; exact hk
  · rw [h]; exact hk

/-- What is asked of one operation at one heap. -/
def OpAt (P : Program) (gl : Nat) (f : Fr) (o : Oper) (h : AH) (v : Value) (h' : AH) : Prop := (Ext h h' ∧ WF h') ∧
    ∀ (κ : K) (G : Nat → Option AObj) (a : Act) (w : World) (K' : Act → World → Prop) (Q : Exit → Act → World → Prop), KG gl κ → Rel P κ G w → Agree h h' G → Fresh h h' κ G →
      (∀ x ∈ o.op.operands, VR κ (f.eval x) (a.eval x)) →
      (∀ κ' v' w', VR κ' v v' → Rel P κ' (merge h h' G) w' → KX h h' κ κ' w w' → K' (a.put o.dst v') w') → o.wp P a w K' Q

theorem flatA_sound {f : Fr} {o : Oper} {h : AH} {v : Value} {h' : AH} (e : flatA P f o h = some (v, h')) (hs : ∀ cs b, o.op ≠ .select cs b) (wf : WF h) : OpAt P gl f o h v h' := by
  unfold flatA at e
  split at e
  · rename_i v0 hv
    cases e
    refine ⟨⟨Ext.refl _, wf⟩, fun κ G a w K' Q hg hrel hag hfs hρ hk => ?_⟩
    obtain ⟨h1, h2⟩ := flat_sound hv hs hρ w
    exact wp_of_gives h1 (hk κ v w h2 (by rw [merge_self wf hag]; exact hrel) (KX.refl _ _ _))
  · cases e

theorem plainA_sound (hz : ZerosFlat P) {f : Fr} {o : Oper} {h : AH} {v : Value} {h' : AH} (e : plainA P f o h = some (v, h')) (hs : ∀ cs b, o.op ≠ .select cs b) (wf : WF h) : OpAt P gl f o h v h' := by
  unfold plainA at e
  split at e
  · rename_i v0 hv
    exact flatA_sound (by unfold flatA; rw [hv]; exact e) hs wf
  split at e
  · cases e
  rename_i h0 hgd
  obtain ⟨hm, hC⟩ := guard_sound hgd wf
  have main : ∀ (nx : Next) (h1 : AH), arun P (execOp f.eval o) h0 = some (nx, h1) → (Ext h h1 ∧ WF h1) ∧
      ∀ (κ : K) (G : Nat → Option AObj) (a : Act) (w : World), KG gl κ → Rel P κ G w → Agree h h1 G → Fresh h h1 κ G → (∀ x ∈ o.op.operands, VR κ (f.eval x) (a.eval x)) →
        ∃ κ' nx' w', (execOp a.eval o).run P w = .ok nx' w' ∧ NextR κ' nx nx' ∧ Rel P κ' (merge h h1 G) w' ∧ KX h h1 κ κ' w w' := by
    intro nx h1 he
    have x1 := arun_ext P _ _ _ _ he (hm.wf wf)
    refine ⟨⟨hm.ext.trans x1.1, x1.2⟩, fun κ G a w hg hrel hag hfs hρ => ?_⟩
    have hag0 := hag.left x1.1
    have hmr := merge_read wf ⟨hm.1, hm.2.1, hm.2.2.1⟩ hag0
    have hag1 := hag.right hm.ext
    rw [hmr] at hag1
    have hfs1 : Fresh h0 h1 κ G := fun id x y => hfs id (by have := hm.2.1; omega) y
    obtain ⟨κ', nx', w', q1, q2, q3, q4⟩ := run_sim (op_sr hz o hρ (hC hrel hag0)) _ _ _ he (hm.wf wf) G w hrel hag1 hfs1
    refine ⟨κ', nx', w', q1, q2, ?_, ⟨q4.le, fun id hid => q4.dom id (by have := hm.2.1; omega), q4.new, q4.keep, q4.same⟩⟩
    have := merge_merge (G := G) hm.ext x1.1
    rw [hmr] at this
    rw [← this]; exact q3
  split at e
  · rename_i v1 h1 he
    cases e
    obtain ⟨m1, m2⟩ := main _ _ he
    refine ⟨m1, fun κ G a w K' Q hg hrel hag hfs hρ hk => ?_⟩
    obtain ⟨κ', nx', w', q1, q2, q3, q4⟩ := m2 κ G a w hg hrel hag hfs hρ
    cases q2 with
    | value hv => exact wp_of_gives (.inl q1) (hk κ' _ w' hv q3 q4)
  · rename_i h1 he
    cases e
    obtain ⟨m1, m2⟩ := main _ _ he
    refine ⟨m1, fun κ G a w K' Q hg hrel hag hfs hρ hk => ?_⟩
    obtain ⟨κ', nx', w', q1, q2, q3, q4⟩ := m2 κ G a w hg hrel hag hfs hρ
    cases q2 with
    | skip => exact wp_of_gives (.inr ⟨q1, rfl⟩) (hk κ' _ w' (VR.flat _ undef_flat) q3 q4)
  · cases e

theorem appendA_sound {f : Fr} {o : Oper} {c : Call} (ho : o.op = .call c) (hc : c.callee = .builtin .append) {h : AH} {v : Value} {h' : AH}
    (e : appendA P c.argTypes.toList (c.args.toList.map f.eval) h = some (v, h')) (wf : WF h) : OpAt P gl f o h v h' := by
  unfold appendA at e
  split at e
  · rename_i t xt s x hat hargs
    have hats : c.argTypes = #[t, xt] := by rw [← Array.toList_inj, hat]
    split at e
    · cases e
    · cases e
    rename_i d hd hxt
    have main : (Ext h h' ∧ WF h') ∧ ∀ {κ : K} {G : Nat → Option AObj} {w : World}, Rel P κ G w → Agree h h' G → Fresh h h' κ G → ∀ {s' x' : Value}, VR κ s s' → VR κ x x' → AppendGives P κ G h h' w t xt o.type s' x' v := by
      split at e
      · rename_i r hf
        cases e
        exact ⟨fitA_ext hf wf, fun hrel hag hfs => fun hs hx => fitA_sound hf wf hxt (fun k hk => hd k (hk ▸ rfl)) hrel hag hfs hs hx⟩
      · exact ⟨growA_ext e wf, fun hrel hag hfs => fun hs hx => growA_sound e wf hxt (fun k hk => hd k (hk ▸ rfl)) hrel hag hfs hs hx⟩
    refine ⟨main.1, fun κ G a w K' Q hg hrel hag hfs hρ hk => ?_⟩
    obtain ⟨args, hl⟩ : ∃ args : List Operand, c.args = ⟨args⟩ := ⟨c.args.toList, rfl⟩
    rw [hl] at hargs
    match args, hargs, hl with
    | [y, z], hargs, hl =>
      simp only [List.map_cons, List.map_nil, List.cons.injEq, and_true] at hargs
      obtain ⟨rfl, rfl⟩ := hargs
      have hy : VR κ (f.eval y) (a.eval y) := hρ y (by rw [ho]; simp [Op.operands, Call.operands, hl])
      have hz : VR κ (f.eval z) (a.eval z) := hρ z (by rw [ho]; simp [Op.operands, Call.operands, hl])
      obtain ⟨κ', v', w', q1, q2, q3, q4⟩ := main.2 hrel hag hfs hy hz
      refine wp_of_gives (.inl ?_) (hk κ' v' w' q2 q3 q4)
      simp [execOp, ho, resolve, hc, invoke, builtin, hats, hl, q1]
  · cases e

theorem run_callFunc {g : FuncId} (hb : hasBody P g = true) (args : Array Value) (w : World) : (callFunc g args).run P w = .ok (.enter g args) w := by
  unfold hasBody at hb
  unfold callFunc
  split at hb
  · cases hb
  · rename_i fn hfn
    simp only [Bool.and_eq_true, Bool.not_eq_true'] at hb
    obtain ⟨h1, h2⟩ := hb
    have h3 : ¬ fn.body = none := by cases hbd : fn.body <;> simp [hbd] at h1 ⊢
    have h2' : ¬ fn.name = "runtime.NumGoroutine" := by simpa using h2
    simp [hfn, h2', h3]

theorem run_method {t : TypeId} {name : String} {g : FuncId} (hm : methodDirect P t name = some g) (n : Nat) (v : Value) (w : World) : (method (n + 1) t v name).run P w = .ok (g, v) w := by
  unfold methodDirect at hm
  split at hm
  · cases hm
  rename_i i hi
  split at hm
  · cases hm
  rename_i m hf
  have hf' : i.methods.find? (·.name == name) = some m := by rw [← Array.find?_toList]; exact hf
  split at hm
  · rename_i p q e hpath hfunc hu
    cases hm
    simp [method, typeInfo, hi, hf', hpath, follow, hfunc, receiverAt, run_underlying hu, Place.get]
  · cases hm
  · rename_i d hn hpath hfunc hu
    cases hm
    have : ∀ wr, (receiverAt t (.val v) false wr).run P w = .ok v w := by
      intro wr
      unfold receiverAt
      simp only [Sem.run_bind, run_underlying hu, Result.andThen_ok]
      rfl
    simp [method, typeInfo, hi, hf', hpath, follow, hfunc, this]
  · cases hm
end
end Go.Ev
