/- A certified evaluator of calls, run by the kernel, with its rules for what is not known: what it tells holds of every program. -/
import Derived.LoopN
import Derived.Scope
import Derived.Recover
import Derived.RangeFuncLeaves
import Derived.RangeFuncRecord
import Derived.AtR
import Derived.Test.YtnadimjglkodkaaGreatDoorKit2
namespace Go.Ev
open Go

/-! ### what the parts hand to each other, and what that stands for -/

inductive ExR (κ : K) : AExit → Exit → Prop
  | normal : ExR κ .normal .normal
  | exit (id : Nat) : ExR κ (.exit id) (.exit id)
  | goto (l : Nat) : ExR κ (.goto l) (.goto l)
  | ret : ExR κ .ret .ret
  | panic {v v' : Value} : VR κ v v' → ExR κ (.panic v) (.panic [{ v := v', recovered := false }])
inductive EndR (κ : K) : AEnd → Ending → Prop
  | ret {v v' : Value} : VR κ v v' → EndR κ (.ret v) (.returned v')
  | pan {v v' : Value} : VR κ v v' → EndR κ (.pan v) (.panicked [{ v := v', recovered := false }])
inductive AMR (κ : K) : AM → FrameMode → Prop
  | ret : AMR κ .ret .returning
  | pan {v v' : Value} {r : Bool} : VR κ v v' → AMR κ (.pan v r) (.panicking [{ v := v', recovered := r }])
theorem AMR.mono {κ κ' : K} (hk : κ.le κ') {m : AM} {u : FrameMode} (h : AMR κ m u) : AMR κ' m u := by
  cases h with
  | ret => exact .ret
  | pan h => exact .pan (h.mono hk)

def markD (D : Nat) : Deferred := { target := .collected D, args := #[] }
def marksOf : List Deferred → List Nat
  | [] => []
  | d :: ds => match d.target with
    | .collected D => D :: marksOf ds
    | _ => marksOf ds
/-- The deferred calls that an activation has gathered: of functions, and the marks of its ranges over functions. -/
inductive DfR (P : Program) (κ : K) (w : World) (n0 : Nat) : List Dfr → List Deferred → Prop
  | nil : DfR P κ w n0 [] []
  | mark {D : Nat} {ds : List Dfr} {ds' : List Deferred} : n0 ≤ D → w.heap[D]? = some (.deferred (some [])) → (∀ id b, κ id = some b → b.blk ≠ D) → D ∉ marksOf ds' → DfR P κ w n0 ds ds' → DfR P κ w n0 (.mark :: ds) (markD D :: ds')
  | call {g : FuncId} {args captured' args' : List Value} {ds : List Dfr} {ds' : List Deferred} : hasBody P g = true → VL κ args (args' ++ captured') → DfR P κ w n0 ds ds' →
      DfR P κ w n0 (.call g args :: ds) ({ target := .fn (.func g) ⟨captured'⟩, args := ⟨args'⟩ } :: ds')

theorem kept {b c : AH} {κ1 κ2 : K} {w1 w2 : World} (hk : KX b c κ1 κ2 w1 w2) {D : Nat} {o : Obj} (ho : w1.heap[D]? = some o) (hn : ∀ id b, κ1 id = some b → b.blk ≠ D) :
    w2.heap[D]? = some o ∧ ∀ id b, κ2 id = some b → b.blk ≠ D := by
  have hlt : D < w1.heap.size := (Array.getElem?_eq_some_iff.1 ho).1
  refine ⟨by rw [hk.keep D hlt fun id b hb hbk => absurd hbk (hn id b hb)]; exact ho, fun id x hx hxd => ?_⟩
  rcases hk.new id x hx with h | h | ⟨i, y, hi, hy, _⟩
  · exact hn id x h hxd
  · omega
  · exact hn i y hi (hy.trans hxd)
theorem DfR.keep {P : Program} {b c : AH} {κ1 κ2 : K} {w1 w2 : World} {n0 : Nat} (hk : KX b c κ1 κ2 w1 w2) {ds : List Dfr} {ds' : List Deferred} (h : DfR P κ1 w1 n0 ds ds') : DfR P κ2 w2 n0 ds ds' := by
  induction h with
  | nil => exact .nil
  | mark h1 h2 h3 h4 _ ih =>
    obtain ⟨q1, q2⟩ := kept hk h2 h3
    exact .mark h1 q1 q2 h4 ih
  | call hb h _ ih => exact .call hb (h.mono hk.le) ih

/-! ### code -/

def loopA (rec : RecC) (c : Code) : Nat → Fr → AH → Option (AExit × Fr × AH)
  | 0, _, _ => none
  | n + 1, f, h => match rec c f h with
    | some (.normal, f1, h1) => loopA rec c n f1 h1
    | r => r
def scopeA (rec : RecC) (body : Code) : Nat → Code → Fr → AH → Option (AExit × Fr × AH)
  | 0, _, _, _ => none
  | n + 1, cur, f, h => match rec cur f h with
    | some (.goto l, f1, h1) => match findLabel body l with
      | some rest => scopeA rec body n rest f1 h1
      | none => some (.goto l, f1, h1)
    | r => r
def rounds : Nat := 1000000
/-- A function that is ranged over and comes to an end without a round. -/
def rangeA (P : Program) (gl : Nat) (recF : RecF) (g : Operand) (f : Fr) (h : AH) : Option AH :=
  cond (operandOk gl g)
    (match f.eval g with
      | .func (.func gf) ⟨first⟩ ⟨captured⟩ => cond (hasBody P gf)
          (match recF gf (first ++ [.func (.yield 0) ⟨[]⟩ ⟨[]⟩] ++ captured) h with
            | some (.ret _, h1) => some h1
            | _ => none) none
      | _ => none) none
def deferA (P : Program) (ρ : Operand → Value) (c : Call) : Option Dfr :=
  match c.callee with
  | .value x => match ρ x with
    | .func (.func g) ⟨first⟩ ⟨captured⟩ => cond (hasBody P g) (some (.call g (first ++ c.args.toList.map ρ ++ captured))) none
    | _ => none
  | _ => none
/-- What may end in a panic, or defers. -/
def actA (P : Program) (recF : RecF) (o : Oper) (f : Fr) (h : AH) : Option (AExit × Fr × AH) :=
  match o.op with
  | .defer c => match deferA P f.eval c with
    | some d => some (.normal, ({ f with ds := d :: f.ds } : Fr).put o.dst undef, h)
    | none => none
  | .panic x => match f.eval x with
    | .iface t v => some (.panic (.iface t v), f, h)
    | _ => none
  | .call c => match c.callee with
    | .builtin .panic => match c.args.toList.map f.eval with
      | [.iface t v] => some (.panic (.iface t v), f, h)
      | _ => none
    | _ => match calleeA P f.eval c with
      | some (g, args) => match recF g args h with
        | some (.pan v, h1) => some (.panic v, f, h1)
        | _ => none
      | none => none
  | _ => none
def oneA (P : Program) (gl : Nat) (recF : RecF) (ev : OpEv) (o : Oper) (f : Fr) (h : AH) : Option (AExit × Fr × AH) :=
  match ev f o h with
  | some (v, h1) => some (.normal, f.put o.dst v, h1)
  | none => cond (o.op.operands.toList.all (operandOk gl)) (actA P recF o f h) none
def runA (P : Program) (gl : Nat) (recF : RecF) (ev : OpEv) (ops : Array Oper) : List Nat → Fr → AH → Option (AExit × Fr × AH)
  | [], f, h => some (.normal, f, h)
  | i :: l, f, h => match ops[i]? with
    | none => runA P gl recF ev ops l f h
    | some o => cond (Region.wanted o (yieldedA ops f))
      (match oneA P gl recF ev o f h with
        | some (.normal, f1, h1) => runA P gl recF ev ops l f1 h1
        | r => r)
      (runA P gl recF ev ops l (f.put o.dst undef) h)
def stepC (P : Program) (gl : Nat) (ev : OpEv) (recF : RecF) (rec : RecC) : RecC
  | .skip, f, h => some (.normal, f, h)
  | .label _, f, h => some (.normal, f, h)
  | .seq a b, f, h => match rec a f h with
    | some (.normal, f1, h1) => rec b f1 h1
    | r => r
  | .cond c x y, f, h => cond (operandOk gl c) (match f.eval c with
      | .bool true => rec x f h
      | .bool false => rec y f h
      | _ => none) none
  | .block id c, f, h => match rec c f h with
    | some (.exit id', f1, h1) => some (cond (Nat.beq id' id) .normal (.exit id'), f1, h1)
    | r => r
  | .loop c, f, h => loopA rec c rounds f h
  | .exit id, f, h => some (.exit id, f, h)
  | .goto l, f, h => some (.goto l, f, h)
  | .ret, f, h => some (.ret, f, h)
  | .scope body, f, h => scopeA rec body rounds body f h
  | .region _ ops draw, f, h => cond draw
      (match region ev ops true f h with
        | some (f1, h1) => some (.normal, { t := f1.t, n := f1.n, ds := f.ds }, h1)
        | none => none)
      (runA P gl recF ev ops (List.range ops.size) f h)
  | .rangeFunc g _ _ _, f, h => match rangeA P gl recF g f h with
    | some h1 => some (.normal, { f with ds := .mark :: f.ds }, h1)
    | none => none
  | .refuse _, _, _ => none

def ofArgs : List Value → Nat → T Value → T Value
  | [], _, t => t
  | v :: l, i, t => ofArgs l (i + 1) (t.set 24 i (some v))
def resultsF (get : Nat → Value) (fn : Func) : Sem Value := do
  let vs ← fn.results.mapM fun
    | .tmp t => pure (get t)
    | .cell a t => do loadVar t (← asAddr (get a))
  pure (if h : vs.size = 1 then vs[0] else .tuple vs)
def settleA : AM → AM
  | .pan _ true => .ret
  | m => m
/-- A function's way out: its deferred calls, then its results. -/
def leaveA (P : Program) (recD : RecD) (fn : Func) (get : Nat → Value) : List Dfr → AM → AH → Option (AEnd × AH)
  | [], .ret, h => match arun P (resultsF get fn) h with
    | some (v, h1) => some (.ret v, h1)
    | none => none
  | [], .pan v false, h => some (.pan v, h)
  | [], .pan _ true, _ => none
  | .mark :: ds, m, h => leaveA P recD fn get ds m h
  | .call g args :: ds, m, h => match recD g args m h with
    | some (m', h1) => leaveA P recD fn get ds (settleA m') h1
    | none => none
def stepF (P : Program) (rec : RecC) (recD : RecD) : RecF := fun g args h =>
  match P.funcs[g]? with
  | none => none
  | some fn => match fn.body with
    | none => none
    | some c =>
      cond (small (args.length + (fn.ntmps - args.length)))
        (match rec c { t := ofArgs args 0 .nil, n := args.length + (fn.ntmps - args.length) } h with
          | some (.normal, f', h1) | some (.ret, f', h1) => leaveA P recD fn f'.get f'.ds .ret h1
          | some (.panic v, f', h1) => leaveA P recD fn f'.get f'.ds (.pan v false) h1
          | _ => none) none

/-! ### a deferred function's own code: it may recover -/

def isRecover (o : Oper) : Bool := match o.op with
  | .call c => match c.callee with
    | .builtin .recover => true
    | _ => false
  | _ => false
def runS (P : Program) (gl : Nat) (recF : RecF) (ev : OpEv) (ops : Array Oper) : List Nat → Fr → AM → AH → Option (AExit × Fr × AM × AH)
  | [], f, m, h => some (.normal, f, m, h)
  | i :: l, f, m, h => match ops[i]? with
    | none => runS P gl recF ev ops l f m h
    | some o => cond (Region.wanted o (yieldedA ops f))
      (cond (isRecover o)
        (match m with
          | .pan v false => runS P gl recF ev ops l (f.put o.dst v) (.pan v true) h
          | m => runS P gl recF ev ops l (f.put o.dst .nilIface) m h)
        (match oneA P gl recF ev o f h with
          | some (.normal, f1, h1) => runS P gl recF ev ops l f1 m h1
          | some (x, f1, h1) => some (x, f1, m, h1)
          | none => none))
      (runS P gl recF ev ops l (f.put o.dst undef) m h)
def stepS (P : Program) (gl : Nat) (ev : OpEv) (recF : RecF) (rec : RecC) (recS : RecS) : RecS
  | .seq a b, f, m, h => match recS a f m h with
    | some (.normal, f1, m1, h1) => recS b f1 m1 h1
    | r => r
  | .cond c x y, f, m, h => cond (operandOk gl c) (match f.eval c with
      | .bool true => recS x f m h
      | .bool false => recS y f m h
      | _ => none) none
  | .block id c, f, m, h => match recS c f m h with
    | some (.exit id', f1, m1, h1) => some (cond (Nat.beq id' id) .normal (.exit id'), f1, m1, h1)
    | r => r
  | .region id ops draw, f, m, h => cond draw
      (match rec (.region id ops draw) f h with
        | some (x, f1, h1) => some (x, f1, m, h1)
        | none => none)
      (runS P gl recF ev ops (List.range ops.size) f m h)
  | c, f, m, h => match rec c f h with
    | some (x, f1, h1) => some (x, f1, m, h1)
    | none => none
def stepD (P : Program) (recS : RecS) : RecD := fun g args m h =>
  match P.funcs[g]? with
  | none => none
  | some fn => match fn.body with
    | none => none
    | some c =>
      cond (small (args.length + (fn.ntmps - args.length)))
        (match recS c { t := ofArgs args 0 .nil, n := args.length + (fn.ntmps - args.length) } m h with
          | some (.normal, f', m', h1) | some (.ret, f', m', h1) => match f'.ds, arun P (resultsF f'.get fn) h1 with
            | [], some (_, h2) => some (m', h2)
            | _, _ => none
          | _ => none) none

/-! ### what is claimed of them -/

def CodeSound (P : Program) (gl : Nat) (rec : RecC) : Prop :=
  ∀ c f h ex f' h', rec c f h = some (ex, f', h') → WF h → small f.n = true → (Ext h h' ∧ WF h' ∧ f'.n = f.n) ∧
    ∀ (κ : K) (G : Nat → Option AObj) (a : Act) (w : World) (n0 : Nat) (Q : Exit → Act → World → Prop), KG gl κ → Rel P κ G w → FrR κ f a → DfR P κ w n0 f.ds a.defers → n0 ≤ w.heap.size → Agree h h' G → Fresh h h' κ G →
      (∀ κ' ex' a' w', ExR κ' ex ex' → Rel P κ' (merge h h' G) w' → FrR κ' f' a' → DfR P κ' w' n0 f'.ds a'.defers → KX h h' κ κ' w w' → Q ex' a' w') → c.wp P Q a w
def CallSound (P : Program) (gl : Nat) (rec : RecF) : Prop :=
  ∀ g args h en h', rec g args h = some (en, h') → WF h → (Ext h h' ∧ WF h') ∧
    ∀ (κ : K) (G : Nat → Option AObj) (args' : Array Value) (w : World), KG gl κ → Rel P κ G w → VL κ args args'.toList → Agree h h' G → Fresh h h' κ G →
      Calls P g args' w fun e w' => ∃ κ', EndR κ' en e ∧ Rel P κ' (merge h h' G) w' ∧ KX h h' κ κ' w w'
def SoundS (P : Program) (gl : Nat) (rec : RecS) : Prop :=
  ∀ c f m h ex f' m' h', rec c f m h = some (ex, f', m', h') → WF h → small f.n = true → (Ext h h' ∧ WF h' ∧ f'.n = f.n) ∧
    ∀ (κ : K) (G : Nat → Option AObj) (a : Act) (u : FrameMode) (c0 : Frame) (cs : List Frame) (w : World) (n0 : Nat) (Q : Exit → Act → List Frame → World → Prop), KG gl κ → Rel P κ G w → FrR κ f a → AMR κ m u → DfR P κ w n0 f.ds a.defers → n0 ≤ w.heap.size →
      Agree h h' G → Fresh h h' κ G →
      (∀ κ' ex' a' u' w', ExR κ' ex ex' → Rel P κ' (merge h h' G) w' → FrR κ' f' a' → AMR κ' m' u' → DfR P κ' w' n0 f'.ds a'.defers → KX h h' κ κ' w w' → Q ex' a' ({ c0 with mode := u' } :: cs) w') → c.wpS P Q a ({ c0 with mode := u } :: cs) w
def DeferSound (P : Program) (gl : Nat) (rec : RecD) : Prop :=
  ∀ g args m h m' h', rec g args m h = some (m', h') → WF h → (Ext h h' ∧ WF h') ∧
    ∀ (κ : K) (G : Nat → Option AObj) (args' : Array Value) (u : FrameMode) (w : World), KG gl κ → Rel P κ G w → VL κ args args'.toList → AMR κ m u → Agree h h' G → Fresh h h' κ G →
      CallsD P g args' u w fun e u' w' => ∃ κ' v, e = .returned v ∧ AMR κ' m' u' ∧ Rel P κ' (merge h h' G) w' ∧ KX h h' κ κ' w w'
end Go.Ev
namespace Go.Ev
open Go
section
variable {P : Program} {gl : Nat} {recF : RecF} {recC : RecC} {ev ev' : OpEv}

theorem vl_map {κ : K} {ρ ρ' : Operand → Value} {l : List Operand} (h : ∀ x ∈ l, VR κ (ρ x) (ρ' x)) : VL κ (l.map ρ) (l.map ρ') := by
  induction l with
  | nil => exact .nil
  | cons x l ih => exact .cons (h x (by simp)) (ih fun y hy => h y (by simp [hy]))

theorem calleeA_sound {f : Fr} {o : Oper} {c : Call} (ho : o.op = .call c) {g : FuncId} {args : List Value} (e : calleeA P f.eval c = some (g, args)) {κ : K} {a : Act} (hρ : ∀ x ∈ o.op.operands, VR κ (f.eval x) (a.eval x)) (w : World) :
    ∃ args', (execOp a.eval o).run P w = .ok (.enter g args') w ∧ VL κ args args'.toList := by
  have hargs : VL κ (c.args.toList.map f.eval) (c.args.toList.map a.eval) := vl_map fun x hx => hρ x (by rw [ho]; simp [Op.operands, Call.operands]; exact Or.inr (by simpa using hx))
  unfold calleeA at e
  split at e
  · cases e
  · rename_i recv name hc
    have hr : VR κ (f.eval recv) (a.eval recv) := hρ recv (by rw [ho]; simp [Op.operands, Call.operands, hc])
    split at e
    · rename_i t v hv
      split at e
      · rename_i g' hm
        cases hb : hasBody P g' with
        | false => rw [hb] at e; cases e
        | true =>
          rw [hb] at e
          cases e
          rw [hv] at hr
          generalize hv' : a.eval recv = rv' at hr
          cases hr with
          | iface hvr =>
            rename_i v'
            refine ⟨#[v'] ++ c.args.map a.eval, ?_, by simpa using VL.cons hvr hargs⟩
            have hd : ∀ n, (method (n + 1) t v' name).run P w = .ok (g, v') w := fun n => run_method hm n v' w
            have hpos : 0 < Made.depth := by decide
            have hdep : ∃ n, P.types.size + Made.depth = n + 1 := ⟨P.types.size + Made.depth - 1, by omega⟩
            obtain ⟨n, hn⟩ := hdep
            have e0 : ∀ l : Array Value, ((#[Value.iface t v'] : Array Value) ++ l)[0]? = some (Value.iface t v') := fun l => by rw [Array.getElem?_append_left (by simp)]; rfl
            have e1 : (c.args.map a.eval).extract 0 c.args.size = c.args.map a.eval := by rw [show c.args.size = (c.args.map a.eval).size by simp]; exact Array.extract_size
            simp [execOp, ho, resolve, hc, invoke, callMethod, hv', e0, e1, hn, hd, run_callFunc hb]
      · cases e
    · cases e
  · rename_i x hc
    have hr : VR κ (f.eval x) (a.eval x) := hρ x (by rw [ho]; simp [Op.operands, Call.operands, hc])
    split at e
    · rename_i g' first captured hv
      cases hb : hasBody P g' with
      | false => rw [hb] at e; cases e
      | true =>
        rw [hb] at e
        cases e
        rw [hv] at hr
        generalize hv' : a.eval x = rv' at hr
        cases hr with
        | func hfn h1 h2 =>
          rename_i first' captured'
          refine ⟨(⟨first'⟩ : Array Value) ++ c.args.map a.eval ++ (⟨captured'⟩ : Array Value), ?_, ?_⟩
          · simp [execOp, ho, resolve, hc, invoke, hv', Deferred.ofValue, run_callFunc hb]
          · simpa using (VL.append h1 hargs).append h2
    · cases e

theorem aop_sound (hz : ZerosFlat P) (hr : CallSound P gl recF) : OpSound P gl (aop P gl recF) := by
  intro f o h v h' e wf
  have conv : OpAt P gl f o h v h' → (o.op.operands.toList.all (operandOk gl) = true) → (Ext h h' ∧ WF h') ∧
    ∀ (κ : K) (G : Nat → Option AObj) (a : Act) (w : World) (K' : Act → World → Prop) (Q : Exit → Act → World → Prop), KG gl κ → Rel P κ G w → Agree h h' G → Fresh h h' κ G →
      (∀ t, Operand.tmp t ∈ o.op.operands → VR κ (f.get t) (a.tmps.getD t undef)) →
      (∀ κ' v' w', VR κ' v v' → Rel P κ' (merge h h' G) w' → KX h h' κ κ' w w' → K' (a.put o.dst v') w') → o.wp P a w K' Q := by
    intro hat hall
    refine ⟨hat.1, fun κ G a w K' Q hg hrel hag hfs ht hk => hat.2 κ G a w K' Q hg hrel hag hfs (fun x hx => ?_) hk⟩
    exact eval_rel hg (fun t hxt => ht t (hxt ▸ hx)) (List.all_eq_true.1 hall x (by simpa using hx))
  unfold aop at e
  cases hall : o.op.operands.toList.all (operandOk gl) with
  | false => rw [hall] at e; cases e
  | true =>
    rw [hall] at e
    simp only [cond_true] at e
    refine conv ?_ hall
    split at e
    · rename_i c ho
      have hs : ∀ cs b, o.op ≠ .select cs b := fun cs b h => by rw [ho] at h; cases h
      split at e
      · rename_i hc; exact appendA_sound ho hc e wf
      · exact plainA_sound hz e hs wf
      · split at e
        · rename_i g args hcal
          split at e
          case h_2 => cases e
          rename_i v0 h0 hre
          cases e
          have := hr g args h _ h' hre wf
          refine ⟨this.1, fun κ G a w K' Q hg hrel hag hfs hρ hk => ?_⟩
          obtain ⟨args', hrun, hvl⟩ := calleeA_sound ho hcal hρ w
          unfold Oper.wp
          rw [hrun, Oper.upon_enter]
          refine (this.2 κ G args' w hg hrel hvl hag hfs).mono fun en w' hen => ?_
          obtain ⟨κ', q1, q2, q3⟩ := hen
          cases q1 with
          | ret hv => exact hk κ' _ w' hv q2 q3
        · exact flatA_sound e hs wf
    · cases e
    · rename_i hns; exact plainA_sound hz e (fun cs b h => hns cs b h) wf

def orEv (a b : OpEv) : OpEv := fun f o h => match a f o h with
  | some r => some r
  | none => b f o h
theorem OpSound.or {a b : OpEv} (ha : OpSound P gl a) (hb : OpSound P gl b) : OpSound P gl (orEv a b) := by
  intro f o h v h' e wf
  unfold orEv at e
  split at e
  · rename_i r hr; cases e; exact ha f o h v h' hr wf
  · exact hb f o h v h' e wf

theorem region_sound (hm : P.follows .mixedOrders = true) (hs : OpSound P gl ev) {id : Nat} {ops : Array Oper} {draw : Bool} {f : Fr} {h : AH} {f' : Fr} {h' : AH} (e : region ev ops draw f h = some (f', h')) (wf : WF h) (hsm : small f.n = true) :
    (Ext h h' ∧ WF h' ∧ f'.n = f.n) ∧
    ∀ (κ : K) (G : Nat → Option AObj) (a : Act) (w : World) (Q : Exit → Act → World → Prop), KG gl κ → Rel P κ G w → FrR κ f a → Agree h h' G → Fresh h h' κ G →
      (∀ κ' a' w', Rel P κ' (merge h h' G) w' → FrR κ' f' a' → a'.defers = a.defers → KX h h' κ κ' w w' → Q .normal a' w') → (Code.region id ops draw).wp P Q a w := by
  unfold region at e
  cases draw with
  | false =>
    simp only [cond_false] at e
    have := runOps_sound hs _ _ _ _ _ e wf hsm
    exact ⟨this.1, fun κ G a w Q hg hrel hfr hag hfs hq => wp_region (this.2 κ G a w Q hg hrel hfr hag hfs hq)⟩
  | true =>
    simp only [cond_true] at e
    split at e
    · rename_i pl hpl
      split at e
      · rename_i f1 h1 l hd
        cases hc : ((drawOk pl l || drawSoft ev ops pl l f h) && Region.noSelect ops) with
        | false => rw [hc] at e; cases e
        | true =>
          rw [hc] at e
          cases e
          simp only [Bool.and_eq_true] at hc
          obtain ⟨r1, r2⟩ := region_draw hs hpl hd hc.1 wf hsm
          refine ⟨r1, fun κ G a w Q hg hrel hfr hag hfs hq => wp_region_any hm ?_⟩
          refine r2 κ G a w.drew Q hg (rel_drew hrel) hfr hag hfs fun κ' a' w' q1 q2 q3 q4 => hq κ' a' w' q1 q2 q3 ?_
          exact ⟨q4.le, q4.dom, q4.new, q4.keep, q4.same.os, q4.same.tape, q4.same.output, q4.same.size⟩
      · cases e
    · cases e


/-! ### one operation after the other -/

theorem put_defers (a : Act) (d : Option Tmp) (v : Value) : (a.put d v).defers = a.defers := by cases d <;> rfl
theorem put_ds (f : Fr) (d : Option Tmp) (v : Value) : (f.put d v).ds = f.ds := by
  cases d with
  | none => rfl
  | some d => show (cond (Nat.blt d f.n) _ f).ds = f.ds; cases Nat.blt d f.n <;> rfl
theorem step_kx {h h' : AH} {κ κ' : K} {w w' : World} (hk : KX h h' κ κ' w w') : w.heap.size ≤ w'.heap.size := hk.same.size

theorem deferA_sound {f : Fr} {o : Oper} {c : Call} (ho : o.op = .defer c) {d : Dfr} (e : deferA P f.eval c = some d) {κ : K} {a : Act} (hρ : ∀ x ∈ o.op.operands, VR κ (f.eval x) (a.eval x)) (w : World) :
    ∃ (g : FuncId) (args captured' args' : List Value), d = .call g args ∧ hasBody P g = true ∧ VL κ args (args' ++ captured') ∧ (execOp a.eval o).run P w = .ok (.defer { target := .fn (.func g) ⟨captured'⟩, args := ⟨args'⟩ }) w := by
  have hargs : VL κ (c.args.toList.map f.eval) (c.args.toList.map a.eval) := vl_map fun x hx => hρ x (by rw [ho]; simp [Op.operands, Call.operands]; exact Or.inr (by simpa using hx))
  unfold deferA at e
  split at e
  · rename_i x hc
    have hr : VR κ (f.eval x) (a.eval x) := hρ x (by rw [ho]; simp [Op.operands, Call.operands, hc])
    split at e
    · rename_i g first captured hv
      cases hb : hasBody P g with
      | false => rw [hb] at e; cases e
      | true =>
        rw [hb] at e
        cases e
        rw [hv] at hr
        generalize hv' : a.eval x = rv' at hr
        cases hr with
        | func hfn h1 h2 =>
          rename_i first' captured'
          refine ⟨g, _, captured', first' ++ c.args.toList.map a.eval, rfl, hb, (VL.append h1 hargs).append h2, ?_⟩
          simp [execOp, ho, resolve, hc, hv', Deferred.ofValue]
    · cases e
  · cases e

/-- What an operation is asked: the run goes on, or it ends in a panic. -/
def ActAt (P : Program) (gl : Nat) (f : Fr) (o : Oper) (h : AH) (ex : AExit) (f' : Fr) (h' : AH) : Prop := (Ext h h' ∧ WF h' ∧ f'.n = f.n) ∧
    ∀ (κ : K) (G : Nat → Option AObj) (a : Act) (w : World) (n0 : Nat) (K' : Act → World → Prop) (Q : Exit → Act → World → Prop), KG gl κ → Rel P κ G w → FrR κ f a → DfR P κ w n0 f.ds a.defers → n0 ≤ w.heap.size → Agree h h' G → Fresh h h' κ G →
      (∀ κ' ex' a' w', ExR κ' ex ex' → Rel P κ' (merge h h' G) w' → FrR κ' f' a' → DfR P κ' w' n0 f'.ds a'.defers → KX h h' κ κ' w w' → (ex' = .normal → K' a' w') ∧ (ex' ≠ .normal → Q ex' a' w')) → o.wp P a w K' Q

theorem actA_sound (hr : CallSound P gl recF) {o : Oper} {f : Fr} {h : AH} {ex : AExit} {f' : Fr} {h' : AH} (hok : o.op.operands.toList.all (operandOk gl) = true) (e : actA P recF o f h = some (ex, f', h')) (wf : WF h) (hsm : small f.n = true) : ActAt P gl f o h ex f' h' := by
  have conv : ∀ {κ : K} {a : Act}, KG gl κ → FrR κ f a → ∀ x ∈ o.op.operands, VR κ (f.eval x) (a.eval x) := fun hg hfr x hx =>
    eval_rel hg (fun t _ => hfr.at_ t) (List.all_eq_true.1 hok x (by simpa using hx))
  have pan : ∀ (t : TypeId) (v : Value) (x : Operand), f.eval x = .iface t v → x ∈ o.op.operands → (∀ (a : Act) (w : World) (v' : Value), a.eval x = .iface t v' → (execOp a.eval o).run P w = .halt (.panic (.iface t v')) w) →
      ex = .panic (.iface t v) → f' = f → h' = h → ActAt P gl f o h ex f' h' := by
    intro t v x hx hmem hrun hex hf hh
    subst hex; subst hf; subst hh
    refine ⟨⟨Ext.refl _, wf, rfl⟩, fun κ G a w n0 K' Q hg hrel hfr hd hn hag hfs hq => ?_⟩
    have hv := conv hg hfr x hmem
    rw [hx] at hv
    generalize hv' : a.eval x = rv' at hv
    cases hv with
    | iface hv =>
      unfold Oper.wp
      rw [hrun a w _ hv', Oper.upon_panic]
      exact (hq κ _ a w (.panic (.iface hv)) (by rw [merge_self wf hag]; exact hrel) hfr hd (KX.refl _ _ _)).2 (by simp)
  unfold actA at e
  split at e
  · rename_i c ho
    split at e
    · rename_i d hd
      cases e
      refine ⟨⟨Ext.refl _, wf, Fr.n_put _ _ _⟩, fun κ G a w n0 K' Q hg hrel hfr hdf hn hag hfs hq => ?_⟩
      obtain ⟨g, args, captured', args', rfl, hb, hvl, hrun⟩ := deferA_sound ho hd (conv hg hfr) w
      unfold Oper.wp
      rw [hrun, Oper.upon_defer]
      refine (hq κ .normal _ w .normal (by rw [merge_self wf hag]; exact hrel) ?_ ?_ (KX.refl _ _ _)).1 rfl
      · have h2 : FrR κ ({ f with ds := .call g args :: f.ds } : Fr) { a with defers := { target := .fn (.func g) ⟨captured'⟩, args := ⟨args'⟩ } :: a.defers } := ⟨hfr.size, hfr.at_⟩
        exact h2.put hsm o.dst (VR.flat _ undef_flat)
      · rw [put_ds, put_defers]
        exact .call hb hvl hdf
    · cases e
  · rename_i x ho
    split at e
    · rename_i t v hv
      simp only [Option.some.injEq, Prod.mk.injEq] at e
      exact pan t v x hv (by rw [ho]; simp [Op.operands]) (fun a w v' hv' => by simp [execOp, ho, hv', Instr.panic, goPanic, Result.andThen]) e.1.symm e.2.1.symm e.2.2.symm
    · cases e
  · rename_i c ho
    split at e
    · rename_i hc
      split at e
      · rename_i t v hargs
        simp only [Option.some.injEq, Prod.mk.injEq] at e
        obtain ⟨args, hl⟩ : ∃ args : List Operand, c.args = ⟨args⟩ := ⟨c.args.toList, rfl⟩
        rw [hl] at hargs
        have hl1 : args.length = 1 := by have := congrArg List.length hargs; simpa using this
        obtain ⟨y, rfl⟩ := List.length_eq_one_iff.1 hl1
        simp only [List.map_cons, List.map_nil, List.cons.injEq, and_true] at hargs
        exact pan t v y hargs (by rw [ho]; simp [Op.operands, Call.operands, hl]) (fun a w v' hv' => by simp [execOp, ho, resolve, hc, hl, invoke, builtin, hv', Instr.panic, goPanic, Result.andThen]) e.1.symm e.2.1.symm e.2.2.symm
      · cases e
    · split at e
      · rename_i g args hcal
        split at e
        · rename_i v h1 hre
          cases e
          have := hr g args h _ h' hre wf
          refine ⟨⟨this.1.1, this.1.2, rfl⟩, fun κ G a w n0 K' Q hg hrel hfr hdf hn hag hfs hq => ?_⟩
          obtain ⟨args', hrun, hvl⟩ := calleeA_sound ho hcal (conv hg hfr) w
          unfold Oper.wp
          rw [hrun, Oper.upon_enter]
          refine (this.2 κ G args' w hg hrel hvl hag hfs).mono fun en w' hen => ?_
          obtain ⟨κ', q1, q2, q3⟩ := hen
          cases q1 with
          | pan hv => exact (hq κ' _ a w' (.panic hv) q2 (hfr.mono q3.le) (hdf.keep q3) q3).2 (by simp)
        · cases e
      · cases e
  · cases e

theorem oneA_sound (hs : OpSound P gl ev) (hr : CallSound P gl recF) {o : Oper} {f : Fr} {h : AH} {ex : AExit} {f' : Fr} {h' : AH} (e : oneA P gl recF ev o f h = some (ex, f', h')) (wf : WF h) (hsm : small f.n = true) : ActAt P gl f o h ex f' h' := by
  unfold oneA at e
  split at e
  · rename_i v h1 hev
    cases e
    obtain ⟨x1, s1⟩ := hs _ _ _ _ _ hev wf
    refine ⟨⟨x1.1, x1.2, Fr.n_put _ _ _⟩, fun κ G a w n0 K' Q hg hrel hfr hdf hn hag hfs hq => ?_⟩
    refine s1 κ G a w K' Q hg hrel hag hfs (fun t _ => hfr.at_ t) fun κ' v' w' q1 q2 q3 => ?_
    refine (hq κ' .normal (a.put o.dst v') w' .normal q2 ((hfr.mono q3.le).put hsm o.dst q1) ?_ q3).1 rfl
    rw [put_ds, put_defers]
    exact hdf.keep q3
  · cases hok : o.op.operands.toList.all (operandOk gl) with
    | false => rw [hok] at e; cases e
    | true => rw [hok] at e; exact actA_sound hr hok e wf hsm

theorem runA_sound (hs : OpSound P gl ev) (hr : CallSound P gl recF) {ops : Array Oper} : ∀ (l : List Nat) (f : Fr) (h : AH) (ex : AExit) (f' : Fr) (h' : AH), runA P gl recF ev ops l f h = some (ex, f', h') → WF h → small f.n = true → (Ext h h' ∧ WF h' ∧ f'.n = f.n) ∧
    ∀ (κ : K) (G : Nat → Option AObj) (a : Act) (w : World) (n0 : Nat) (Q : Exit → Act → World → Prop), KG gl κ → Rel P κ G w → FrR κ f a → DfR P κ w n0 f.ds a.defers → n0 ≤ w.heap.size → Agree h h' G → Fresh h h' κ G →
      (∀ κ' ex' a' w', ExR κ' ex ex' → Rel P κ' (merge h h' G) w' → FrR κ' f' a' → DfR P κ' w' n0 f'.ds a'.defers → KX h h' κ κ' w w' → Q ex' a' w') → wpOps P ops Q l a w := by
  intro l
  induction l with
  | nil =>
    intro f h ex f' h' e wf hsm
    cases e
    exact ⟨⟨Ext.refl _, wf, rfl⟩, fun κ G a w n0 Q hg hrel hfr hdf hn hag hfs hq => hq κ .normal a w .normal (by rw [merge_self wf hag]; exact hrel) hfr hdf (KX.refl _ _ _)⟩
  | cons i l ih =>
    intro f h ex f' h' e wf hsm
    simp only [runA] at e
    split at e
    · rename_i ho
      obtain ⟨x1, s1⟩ := ih f h ex f' h' e wf hsm
      refine ⟨x1, fun κ G a w n0 Q hg hrel hfr hdf hn hag hfs hq => ?_⟩
      simp only [wpOps, ho]
      exact s1 κ G a w n0 Q hg hrel hfr hdf hn hag hfs hq
    · rename_i o ho
      cases hw : Region.wanted o (yieldedA ops f) with
      | false =>
        rw [hw] at e
        simp only [cond_false] at e
        obtain ⟨x1, s1⟩ := ih _ h ex f' h' e wf (by rw [Fr.n_put]; exact hsm)
        refine ⟨⟨x1.1, x1.2.1, x1.2.2.trans (Fr.n_put _ _ _)⟩, fun κ G a w n0 Q hg hrel hfr hdf hn hag hfs hq => ?_⟩
        simp only [wpOps, ho]
        rw [yielded_rel (f := f) (κ := κ) fun t _ => hfr.at_ t, hw]
        simp only [Bool.false_eq_true, if_false]
        exact s1 κ G _ w n0 Q hg hrel (hfr.put hsm o.dst (VR.flat _ undef_flat)) (by rw [put_ds, put_defers]; exact hdf) hn hag hfs hq
      | true =>
        rw [hw] at e
        simp only [cond_true] at e
        split at e
        · rename_i f1 h1 ho1
          obtain ⟨⟨x1, wf1, hn1⟩, s1⟩ := oneA_sound hs hr ho1 wf hsm
          obtain ⟨⟨x2, wf2, hn2⟩, s2⟩ := ih f1 h1 ex f' h' e wf1 (by rw [hn1]; exact hsm)
          refine ⟨⟨x1.trans x2, wf2, hn2.trans hn1⟩, fun κ G a w n0 Q hg hrel hfr hdf hn hag hfs hq => ?_⟩
          simp only [wpOps, ho]
          rw [yielded_rel (f := f) (κ := κ) fun t _ => hfr.at_ t, hw]
          simp only [if_true]
          left
          refine s1 κ G a w n0 _ Q hg hrel hfr hdf hn (hag.left x2) (hfs.left x2) fun κ1 ex1 a1 w1 q0 q1 q2 q3 q4 => ?_
          cases q0
          refine ⟨fun _ => ?_, fun hne => absurd rfl hne⟩
          exact s2 κ1 _ a1 w1 n0 Q (hg.mono q4.le) q1 q2 q3 (Nat.le_trans hn (step_kx q4)) (hag.right x1) (hfs.right x1 q4 fun id _ hw => wf1.wr id hw) fun κ2 ex2 a2 w2 r0 r1 r2 r3 r4 =>
            hq κ2 ex2 a2 w2 r0 (by rw [merge_merge x1 x2] at r1; exact r1) r2 r3 (q4.trans x1 x2 r4)
        · rename_i hne
          obtain ⟨x1, s1⟩ := oneA_sound hs hr e wf hsm
          refine ⟨x1, fun κ G a w n0 Q hg hrel hfr hdf hn hag hfs hq => ?_⟩
          simp only [wpOps, ho]
          rw [yielded_rel (f := f) (κ := κ) fun t _ => hfr.at_ t, hw]
          simp only [if_true]
          left
          refine s1 κ G a w n0 _ Q hg hrel hfr hdf hn hag hfs fun κ1 ex1 a1 w1 q0 q1 q2 q3 q4 => ⟨fun hex => ?_, fun _ => hq κ1 ex1 a1 w1 q0 q1 q2 q3 q4⟩
          subst hex
          cases q0
          exact absurd e (hne f' h')

theorem exit_then {κ : K} {Q : Exit → Act → World → Prop} {next : Act → World → Prop} {ex : AExit} {ex' : Exit} {a : Act} {w : World} (hx : ExR κ ex ex') (hn : ex ≠ .normal) (h : Q ex' a w) : Exit.then next Q ex' a w := by
  cases hx with
  | normal => exact absurd rfl hn
  | _ => exact h
end
end Go.Ev
namespace Go.Ev
open Go
section
variable {P : Program} {gl : Nat} {recF : RecF} {rec recC : RecC} {ev : OpEv}

theorem loop_sound (hr : CodeSound P gl rec) (c : Code) : ∀ (n : Nat) f h ex f' h', loopA rec c n f h = some (ex, f', h') → WF h → small f.n = true → (Ext h h' ∧ WF h' ∧ f'.n = f.n) ∧
    ∀ (κ : K) (G : Nat → Option AObj) (a : Act) (w : World) (n0 : Nat) (Q : Exit → Act → World → Prop), KG gl κ → Rel P κ G w → FrR κ f a → DfR P κ w n0 f.ds a.defers → n0 ≤ w.heap.size → Agree h h' G → Fresh h h' κ G →
      (∀ κ' ex' a' w', ExR κ' ex ex' → Rel P κ' (merge h h' G) w' → FrR κ' f' a' → DfR P κ' w' n0 f'.ds a'.defers → KX h h' κ κ' w w' → Q ex' a' w') → Code.rounds P c Q n a w := by
  intro n
  induction n with
  | zero => intro f h ex f' h' e; cases e
  | succ n ih =>
    intro f h ex f' h' e wf hsm
    simp only [loopA] at e
    have done : rec c f h = some (ex, f', h') → ex ≠ .normal → (Ext h h' ∧ WF h' ∧ f'.n = f.n) ∧
        ∀ (κ : K) (G : Nat → Option AObj) (a : Act) (w : World) (n0 : Nat) (Q : Exit → Act → World → Prop), KG gl κ → Rel P κ G w → FrR κ f a → DfR P κ w n0 f.ds a.defers → n0 ≤ w.heap.size → Agree h h' G → Fresh h h' κ G →
      (∀ κ' ex' a' w', ExR κ' ex ex' → Rel P κ' (merge h h' G) w' → FrR κ' f' a' → DfR P κ' w' n0 f'.ds a'.defers → KX h h' κ κ' w w' → Q ex' a' w') → Code.rounds P c Q (n + 1) a w := by
      intro e hn
      obtain ⟨h1, h2⟩ := hr _ _ _ _ _ _ e wf hsm
      refine ⟨h1, fun κ G a w n0 Q hg hrel hfr hdf hn0 hag hfs hq => ?_⟩
      rw [rounds_succ]
      exact h2 κ G a w n0 _ hg hrel hfr hdf hn0 hag hfs fun κ' ex' a' w' q0 q1 q2 q3 q4 => exit_then q0 hn (hq κ' ex' a' w' q0 q1 q2 q3 q4)
    split at e
    · rename_i f1 h1 hc
      obtain ⟨⟨x1, wf1, hn1⟩, s1⟩ := hr _ _ _ _ _ _ hc wf hsm
      obtain ⟨⟨x2, wf2, hn2⟩, s2⟩ := ih f1 h1 ex f' h' e wf1 (by rw [hn1]; exact hsm)
      refine ⟨⟨x1.trans x2, wf2, hn2.trans hn1⟩, fun κ G a w n0 Q hg hrel hfr hdf hn0 hag hfs hq => ?_⟩
      rw [rounds_succ]
      refine s1 κ G a w n0 _ hg hrel hfr hdf hn0 (hag.left x2) (hfs.left x2) fun κ1 ex1 a1 w1 q0 q1 q2 q3 q4 => ?_
      cases q0
      refine s2 κ1 _ a1 w1 n0 Q (hg.mono q4.le) q1 q2 q3 (Nat.le_trans hn0 (step_kx q4)) (hag.right x1) (hfs.right x1 q4 fun id _ hw => wf1.wr id hw) fun κ2 ex2 a2 w2 r0 r1 r2 r3 r4 => ?_
      exact hq κ2 ex2 a2 w2 r0 (by rw [merge_merge x1 x2] at r1; exact r1) r2 r3 (q4.trans x1 x2 r4)
    · rename_i hne
      refine done e ?_
      rintro rfl
      exact hne f' h' e

theorem scope_sound (hr : CodeSound P gl rec) (body : Code) : ∀ (n : Nat) cur f h ex f' h', scopeA rec body n cur f h = some (ex, f', h') → WF h → small f.n = true → (Ext h h' ∧ WF h' ∧ f'.n = f.n) ∧
    ∀ (κ : K) (G : Nat → Option AObj) (a : Act) (w : World) (n0 : Nat) (Q : Exit → Act → World → Prop), KG gl κ → Rel P κ G w → FrR κ f a → DfR P κ w n0 f.ds a.defers → n0 ≤ w.heap.size → Agree h h' G → Fresh h h' κ G →
      (∀ κ' ex' a' w', ExR κ' ex ex' → Rel P κ' (merge h h' G) w' → FrR κ' f' a' → DfR P κ' w' n0 f'.ds a'.defers → KX h h' κ κ' w w' → Q ex' a' w') →
      ∀ (b : Frame) (k : List Item) (cs : List Frame), ∃ e a' w', Q e a' w' ∧ Arrives P (lone (b.at a (.code cur :: .inScope body :: k)) cs w) b k cs e a' w' := by
  intro n
  induction n with
  | zero => intro cur f h ex f' h' e; cases e
  | succ n ih =>
    intro cur f h ex f' h' e wf hsm
    simp only [scopeA] at e
    split at e
    · rename_i l f1 h1 hc
      obtain ⟨⟨x1, wf1, hn1⟩, s1⟩ := hr _ _ _ _ _ _ hc wf hsm
      split at e
      · rename_i rest hf
        obtain ⟨⟨x2, wf2, hn2⟩, s2⟩ := ih rest f1 h1 ex f' h' e wf1 (by rw [hn1]; exact hsm)
        refine ⟨⟨x1.trans x2, wf2, hn2.trans hn1⟩, fun κ G a w n0 Q hg hrel hfr hdf hn0 hag hfs hq b k cs => ?_⟩
        have hgo : gotoIn l (.inScope body :: k) = some (.code rest :: .inScope body :: k) := by simp [gotoIn, hf]
        have := s1 κ G a w n0 (fun e a1 w1 => e = .goto l ∧ ∃ e2 a2 w2, Q e2 a2 w2 ∧ Arrives P (lone (b.at a1 (.code rest :: .inScope body :: k)) cs w1) b k cs e2 a2 w2) hg hrel hfr hdf hn0 (hag.left x2) (hfs.left x2) fun κ1 ex1 a1 w1 q0 q1 q2 q3 q4 => by
          cases q0
          exact ⟨rfl, s2 κ1 _ a1 w1 n0 Q (hg.mono q4.le) q1 q2 q3 (Nat.le_trans hn0 (step_kx q4)) (hag.right x1) (hfs.right x1 q4 fun id _ hw => wf1.wr id hw) (fun κ2 ex2 a2 w2 r0 r1 r2 r3 r4 =>
            hq κ2 ex2 a2 w2 r0 (by rw [merge_merge x1 x2] at r1; exact r1) r2 r3 (q4.trans x1 x2 r4)) b k cs⟩
        obtain ⟨e1, a1, w1, ⟨rfl, e2, a2, w2, hq2, harr2⟩, harr⟩ := this b (.inScope body :: k) cs
        exact ⟨e2, a2, w2, hq2, .of_steps (harr _ hgo) harr2⟩
      · rename_i hf
        cases e
        refine ⟨⟨x1, wf1, hn1⟩, fun κ G a w n0 Q hg hrel hfr hdf hn0 hag hfs hq b k cs => ?_⟩
        have := s1 κ G a w n0 (fun e a1 w1 => e = .goto l ∧ Q e a1 w1) hg hrel hfr hdf hn0 hag hfs fun κ1 ex1 a1 w1 q0 q1 q2 q3 q4 => by
          cases q0
          exact ⟨rfl, hq κ1 _ a1 w1 (.goto l) q1 q2 q3 q4⟩
        obtain ⟨e1, a1, w1, ⟨rfl, hq1⟩, harr⟩ := this b (.inScope body :: k) cs
        exact ⟨.goto l, a1, w1, hq1, fun k' hk => harr k' (by simp [gotoIn, hf, hk])⟩
    · rename_i hne
      obtain ⟨x1, s1⟩ := hr _ _ _ _ _ _ e wf hsm
      refine ⟨x1, fun κ G a w n0 Q hg hrel hfr hdf hn0 hag hfs hq b k cs => ?_⟩
      have := s1 κ G a w n0 (fun e a1 w1 => (∃ κ', ExR κ' ex e) ∧ Q e a1 w1) hg hrel hfr hdf hn0 hag hfs fun κ1 ex1 a1 w1 q0 q1 q2 q3 q4 => ⟨⟨κ1, q0⟩, hq κ1 ex1 a1 w1 q0 q1 q2 q3 q4⟩
      obtain ⟨e1, a1, w1, ⟨⟨κ1, hx⟩, hq1⟩, harr⟩ := this b (.inScope body :: k) cs
      refine ⟨e1, a1, w1, hq1, ?_⟩
      cases hx with
      | normal => exact Steps.trans harr (.one step_inScope)
      | exit id => exact fun k' hk => harr k' (by simp [exitTo, hk])
      | goto l => exact absurd e (hne l f' h')
      | ret => exact harr
      | panic _ => exact harr

theorem DfR.marks_lt {κ : K} {w : World} {n0 : Nat} {ds : List Dfr} {ds' : List Deferred} (h : DfR P κ w n0 ds ds') (D : Nat) (hD : w.heap.size ≤ D) : D ∉ marksOf ds' := by
  induction h with
  | nil => simp [marksOf]
  | mark h1 h2 _ _ _ ih =>
    have := (Array.getElem?_eq_some_iff.1 h2).1
    simp only [marksOf, markD, List.mem_cons, not_or]
    exact ⟨by omega, ih⟩
  | call _ _ _ ih => simpa [marksOf] using ih
theorem heap_alloc2 (w : World) (o o' : Obj) : ((w.alloc o).alloc o').heap[w.heap.size]? = some o ∧ ((w.alloc o).alloc o').heap[w.heap.size + 1]? = some o' ∧ (∀ k, k < w.heap.size → ((w.alloc o).alloc o').heap[k]? = w.heap[k]?) ∧ ((w.alloc o).alloc o').heap.size = w.heap.size + 2 := by
  show (((w.heap.push o).push o')[w.heap.size]? = some o ∧ ((w.heap.push o).push o')[w.heap.size + 1]? = some o' ∧ (∀ k, k < w.heap.size → ((w.heap.push o).push o')[k]? = w.heap[k]?) ∧ ((w.heap.push o).push o').size = w.heap.size + 2)
  refine ⟨?_, ?_, fun k hk => ?_, by simp⟩
  · rw [Array.getElem?_push, if_neg (by simp), Array.getElem?_push, if_pos rfl]
  · rw [Array.getElem?_push, if_pos (by simp)]
  · rw [Array.getElem?_push, if_neg (by simp; omega), Array.getElem?_push, if_neg (by omega)]

theorem rangeA_sound (hcf : CallSound P gl recF) {g : Operand} {ps : Array Tmp} {assign body : Code} {f : Fr} {h h' : AH} (e : rangeA P gl recF g f h = some h') (wf : WF h) : (Ext h h' ∧ WF h') ∧
    ∀ (κ : K) (G : Nat → Option AObj) (a : Act) (w : World) (n0 : Nat) (Q : Exit → Act → World → Prop), KG gl κ → Rel P κ G w → FrR κ f a → DfR P κ w n0 f.ds a.defers → n0 ≤ w.heap.size → Agree h h' G → Fresh h h' κ G →
      (∀ κ' a' w', Rel P κ' (merge h h' G) w' → FrR κ' f a' → DfR P κ' w' n0 (.mark :: f.ds) a'.defers → KX h h' κ κ' w w' → Q .normal a' w') → (Code.rangeFunc g ps assign body).wp P Q a w := by
  unfold rangeA at e
  cases hok : operandOk gl g with
  | false => rw [hok] at e; cases e
  | true =>
    rw [hok] at e
    simp only [cond_true] at e
    split at e
    · rename_i gf first captured hv
      cases hb : hasBody P gf with
      | false => rw [hb] at e; cases e
      | true =>
        rw [hb] at e
        simp only [cond_true] at e
        split at e
        · rename_i v h1 hc
          cases e
          obtain ⟨⟨x1, wf1⟩, s1⟩ := hcf gf _ h _ h' hc wf
          refine ⟨⟨x1, wf1⟩, fun κ G a w n0 Q hg hrel hfr hdf hn0 hag hfs hq b k cs => ?_⟩
          have hvr := eval_rel hg (x := g) (f := f) (a := a) (fun t _ => hfr.at_ t) hok
          rw [hv] at hvr
          generalize hv' : a.eval g = v' at hvr
          cases hvr with
          | func hnn hf1 hf2 =>
            rename_i first' captured'
            let b0 : Frame := { (default : Frame) with fn := b.fn, kind := b.kind, roundOf := none }
            have hat : ∀ (x : Act) (t : List Item), b.at x t = b0.atR x t := fun x t => by simp [Frame.at, Frame.atR, b0]
            let rec0 : Loop := { state := .ready, pending := none, fn := b.fn, tmps := a.tmps, params := ps, assign, body, defers := w.heap.size }
            let w1 : World := (w.alloc (.deferred (some []))).alloc (.loop rec0)
            obtain ⟨a1, a2, a3, a4⟩ := heap_alloc2 w (.deferred (some [])) (.loop rec0)
            have hent : (Instr.enterLoop b0.fn a.tmps ps assign body b0.roundOf).run P w = .ok (w.heap.size + 1, [{ target := .collected w.heap.size, args := #[] }]) w1 := by
              simp [Instr.enterLoop, b0, w1, rec0]
            have hinv : (invoke (.fn (.func gf) ⟨captured'⟩) ((⟨first'⟩ : Array Value) ++ #[.func (.yield (w.heap.size + 1)) #[] #[]])).run P w1 = .ok (.enter gf ((⟨first'⟩ : Array Value) ++ #[.func (.yield (w.heap.size + 1)) #[] #[]] ++ ⟨captured'⟩)) w1 := by
              simp only [invoke]
              exact run_callFunc hb _ _
            have hres : (resolve a.eval (rangeCall g (w.heap.size + 1)) 0).run P w1 = .ok { target := .fn (.func gf) ⟨captured'⟩, args := (⟨first'⟩ : Array Value) ++ #[.func (.yield (w.heap.size + 1)) #[] #[]] } w1 := by
              have hcst : a.eval (.const (.func (.yield (w.heap.size + 1)) #[] #[])) = .func (.yield (w.heap.size + 1)) #[] #[] := rfl
              first | simp [resolve, hv', Deferred.ofValue, hcst] | simp [resolve, rangeCall, hv', Deferred.ofValue, hcst]
            have henter := stepR_rangeFunc (P := P) (b := b0) (a := a) (k := k) (cs := cs) (w := w) hent hres hinv
            have hrel1 : Rel P κ G w1 := ⟨fun id o e => let ⟨y, h1, h2⟩ := hrel.at_ id o e; ⟨y, h1, h2.heap (a3 _ h2.lt)⟩, hrel.one, fun id y hy => by
              have := hrel.old id y hy
              show y.blk < w1.heap.size
              rw [show w1.heap.size = w.heap.size + 2 from a4]; omega⟩
            have hargs : VL κ (first ++ [.func (.yield 0) ⟨[]⟩ ⟨[]⟩] ++ captured) ((⟨first'⟩ : Array Value) ++ #[Value.func (.yield (w.heap.size + 1)) #[] #[]] ++ (⟨captured'⟩ : Array Value)).toList := by
              simp only [Array.toList_append]
              exact (VL.append hf1 (.cons (.yield _) .nil)).append hf2
            obtain ⟨en, w2, fr, hR, hsteps, hfnn, hleave⟩ := s1 κ G _ w1 hg hrel1 hargs hag hfs (b0.atR { a with defers := [{ target := .collected w.heap.size, args := #[] }] ++ a.defers } (.inRangeFunc (w.heap.size + 1) :: k) :: cs)
            obtain ⟨κ', hen, hrel2, hkx⟩ := hR
            cases hen with
            | ret hvv =>
            rename_i v''
            have hnk : ∀ D, w.heap.size ≤ D → ∀ id y, κ id = some y → y.blk ≠ D := fun D hD id y hy e => by have := hrel.old id y hy; omega
            obtain ⟨d1, d2⟩ := kept hkx a1 (hnk _ (Nat.le_refl _))
            obtain ⟨l1, l2⟩ := kept hkx a2 (hnk _ (Nat.le_succ _))
            have hend : (Instr.endLoop (w.heap.size + 1)).run P w2 = .ok none { w2 with heap := w2.heap.setIfInBounds (w.heap.size + 1) (.loop { rec0 with state := .exhausted }) } := by
              have hl2 : w2.heap[w.heap.size + 1]? = some (.loop rec0) := l1
              exact run_endLoop (P := P) hl2 (by simp [rec0])
            let w3 : World := { w2 with heap := w2.heap.setIfInBounds (w.heap.size + 1) (.loop { rec0 with state := .exhausted }) }
            have hother : ∀ j, j ≠ w.heap.size + 1 → w3.heap[j]? = w2.heap[j]? := fun j hj => by
              show (w2.heap.setIfInBounds _ _)[j]? = _
              rw [Array.getElem?_setIfInBounds, if_neg (Ne.symm hj)]
            have hs3 : w3.heap.size = w2.heap.size := by show (w2.heap.setIfInBounds _ _).size = _; simp
            have sback : Steps P (lone (b.at a (.code (.rangeFunc g ps assign body) :: k)) cs w) (lone (b.at { a with defers := [{ target := .collected w.heap.size, args := #[] }] ++ a.defers } k) cs w3) := by
              rw [hat, hat]
              refine .head henter (Steps.trans hsteps (.head ?_ (.one (stepR_endRangeFunc hend))))
              rw [← finish_atR_inRangeFunc (w.heap.size + 1) v'']
              exact step_leave_returned hleave
            have hkx3 : KX h h' κ κ' w w3 := ⟨hkx.le, hkx.dom, fun id y hy => by
                rcases hkx.new id y hy with h | h | h
                · exact .inl h
                · have : w1.heap.size = w.heap.size + 2 := a4
                  exact .inr (.inl (by omega))
                · exact .inr (.inr h), fun j hj hn => by
                  have h12 : w1.heap.size = w.heap.size + 2 := a4
                  rw [hother j (by omega), hkx.keep j (by omega) hn, a3 j hj], ⟨hkx.same.os, hkx.same.tape, hkx.same.output, by
                  have h12 : w1.heap.size = w.heap.size + 2 := a4
                  have := hkx.same.size
                  rw [hs3]; omega⟩⟩
            have hdf' : DfR P κ' w3 n0 (.mark :: f.ds) (markD w.heap.size :: a.defers) := .mark hn0 (by rw [hother _ (by omega)]; exact d1) d2 (hdf.marks_lt _ (Nat.le_refl _)) (hdf.keep hkx3)
            have hq' := hq κ' { a with defers := [{ target := .collected w.heap.size, args := #[] }] ++ a.defers } w3
              ⟨fun id o e => let ⟨y, h1, h2⟩ := hrel2.at_ id o e; ⟨y, h1, h2.heap (hother _ (l2 id y h1))⟩, hrel2.one, fun id y hy => by rw [hs3]; exact hrel2.old id y hy⟩
              ⟨hfr.size, fun i => (hfr.at_ i).mono hkx.le⟩
              hdf' hkx3
            exact ⟨.normal, _, w3, hq', sback⟩
        · cases e
    · cases e

theorem stepC_sound (hm : P.follows .mixedOrders = true) (hs : OpSound P gl ev) (hcf : CallSound P gl recF) (hr : CodeSound P gl recC) : CodeSound P gl (stepC P gl ev recF recC) := by
  intro c f h ex f' h' e wf hsm
  have still : ∀ (x : AExit) (x' : Exit), ex = x → f' = f → h' = h → (∀ κ, ExR κ x x') → (∀ (Q : Exit → Act → World → Prop) (a : Act) (w : World), Q x' a w → c.wp P Q a w) → (Ext h h' ∧ WF h' ∧ f'.n = f.n) ∧
    ∀ (κ : K) (G : Nat → Option AObj) (a : Act) (w : World) (n0 : Nat) (Q : Exit → Act → World → Prop), KG gl κ → Rel P κ G w → FrR κ f a → DfR P κ w n0 f.ds a.defers → n0 ≤ w.heap.size → Agree h h' G → Fresh h h' κ G →
      (∀ κ' ex' a' w', ExR κ' ex ex' → Rel P κ' (merge h h' G) w' → FrR κ' f' a' → DfR P κ' w' n0 f'.ds a'.defers → KX h h' κ κ' w w' → Q ex' a' w') → c.wp P Q a w := by
    rintro x x' rfl rfl rfl hxr hwp
    refine ⟨⟨Ext.refl _, wf, rfl⟩, fun κ G a w n0 Q hg hrel hfr hdf hn0 hag hfs hq => hwp Q a w ?_⟩
    exact hq κ _ a w (hxr κ) (by rw [merge_self wf hag]; exact hrel) hfr hdf (KX.refl _ _ _)
  cases c with
  | skip => simp only [stepC, Option.some.injEq, Prod.mk.injEq] at e; exact still .normal .normal e.1.symm e.2.1.symm e.2.2.symm (fun _ => .normal) fun Q a w hq => wp_skip hq
  | label l => simp only [stepC, Option.some.injEq, Prod.mk.injEq] at e; exact still .normal .normal e.1.symm e.2.1.symm e.2.2.symm (fun _ => .normal) fun Q a w hq => wp_label hq
  | exit id => simp only [stepC, Option.some.injEq, Prod.mk.injEq] at e; exact still (.exit id) (.exit id) e.1.symm e.2.1.symm e.2.2.symm (fun _ => .exit id) fun Q a w hq => wp_exit hq
  | goto l => simp only [stepC, Option.some.injEq, Prod.mk.injEq] at e; exact still (.goto l) (.goto l) e.1.symm e.2.1.symm e.2.2.symm (fun _ => .goto l) fun Q a w hq => wp_goto hq
  | ret => simp only [stepC, Option.some.injEq, Prod.mk.injEq] at e; exact still .ret .ret e.1.symm e.2.1.symm e.2.2.symm (fun _ => .ret) fun Q a w hq => wp_ret hq
  | seq x y =>
    simp only [stepC] at e
    split at e
    · rename_i f1 h1 hc
      obtain ⟨⟨x1, wf1, hn1⟩, s1⟩ := hr _ _ _ _ _ _ hc wf hsm
      obtain ⟨⟨x2, wf2, hn2⟩, s2⟩ := hr _ _ _ _ _ _ e wf1 (by rw [hn1]; exact hsm)
      refine ⟨⟨x1.trans x2, wf2, hn2.trans hn1⟩, fun κ G a w n0 Q hg hrel hfr hdf hn0 hag hfs hq => wp_seq ?_⟩
      refine s1 κ G a w n0 _ hg hrel hfr hdf hn0 (hag.left x2) (hfs.left x2) fun κ1 ex1 a1 w1 q0 q1 q2 q3 q4 => ?_
      cases q0
      refine s2 κ1 _ a1 w1 n0 Q (hg.mono q4.le) q1 q2 q3 (Nat.le_trans hn0 (step_kx q4)) (hag.right x1) (hfs.right x1 q4 fun id _ hw => wf1.wr id hw) fun κ2 ex2 a2 w2 r0 r1 r2 r3 r4 => ?_
      exact hq κ2 ex2 a2 w2 r0 (by rw [merge_merge x1 x2] at r1; exact r1) r2 r3 (q4.trans x1 x2 r4)
    · rename_i hne
      obtain ⟨x1, s1⟩ := hr _ _ _ _ _ _ e wf hsm
      refine ⟨x1, fun κ G a w n0 Q hg hrel hfr hdf hn0 hag hfs hq => wp_seq ?_⟩
      refine s1 κ G a w n0 _ hg hrel hfr hdf hn0 hag hfs fun κ' ex' a' w' q0 q1 q2 q3 q4 => exit_then q0 ?_ (hq κ' ex' a' w' q0 q1 q2 q3 q4)
      rintro rfl
      exact hne f' h' e
  | cond c x y =>
    simp only [stepC] at e
    cases ho : operandOk gl c with
    | false => rw [ho] at e; cases e
    | true =>
      rw [ho] at e
      simp only [cond_true] at e
      have hev : ∀ {κ : K} {a : Act} {b : Bool}, KG gl κ → FrR κ f a → f.eval c = .bool b → a.eval c = .bool b := by
        intro κ a b hg hfr hb
        have := eval_rel hg (x := c) (f := f) (a := a) (fun t _ => hfr.at_ t) ho
        rw [hb] at this
        generalize a.eval c = v at this
        cases this; rfl
      split at e
      · rename_i hb
        obtain ⟨x1, s1⟩ := hr _ _ _ _ _ _ e wf hsm
        exact ⟨x1, fun κ G a w n0 Q hg hrel hfr hdf hn0 hag hfs hq => wp_cond_true (hev hg hfr hb) (s1 κ G a w n0 Q hg hrel hfr hdf hn0 hag hfs hq)⟩
      · rename_i hb
        obtain ⟨x1, s1⟩ := hr _ _ _ _ _ _ e wf hsm
        exact ⟨x1, fun κ G a w n0 Q hg hrel hfr hdf hn0 hag hfs hq => wp_cond_false (hev hg hfr hb) (s1 κ G a w n0 Q hg hrel hfr hdf hn0 hag hfs hq)⟩
      · cases e
  | block id c =>
    simp only [stepC] at e
    split at e
    · rename_i id' f1 h1 hc
      cases e
      obtain ⟨x1, s1⟩ := hr _ _ _ _ _ _ hc wf hsm
      refine ⟨x1, fun κ G a w n0 Q hg hrel hfr hdf hn0 hag hfs hq => wp_block ?_⟩
      refine s1 κ G a w n0 _ hg hrel hfr hdf hn0 hag hfs fun κ' ex' a' w' q0 q1 q2 q3 q4 => ?_
      cases q0
      show if id' = id then Q .normal a' w' else Q (.exit id') a' w'
      by_cases hid : id' = id
      · rw [if_pos hid]
        exact hq κ' .normal a' w' (by rw [beq_eq]; simp only [hid, decide_true, cond_true]; exact .normal) q1 q2 q3 q4
      · rw [if_neg hid]
        exact hq κ' (.exit id') a' w' (by rw [beq_eq]; simp only [hid, decide_false, cond_false]; exact .exit id') q1 q2 q3 q4
    · rename_i hne
      obtain ⟨x1, s1⟩ := hr _ _ _ _ _ _ e wf hsm
      refine ⟨x1, fun κ G a w n0 Q hg hrel hfr hdf hn0 hag hfs hq => wp_block ?_⟩
      refine s1 κ G a w n0 _ hg hrel hfr hdf hn0 hag hfs fun κ' ex' a' w' q0 q1 q2 q3 q4 => ?_
      have := hq κ' ex' a' w' q0 q1 q2 q3 q4
      cases q0 with
      | exit id' => exact absurd e (hne id' f' h')
      | _ => exact this
  | loop c =>
    have := loop_sound hr c rounds f h ex f' h' e wf hsm
    exact ⟨this.1, fun κ G a w n0 Q hg hrel hfr hdf hn0 hag hfs hq => wp_loop_rounds rounds (this.2 κ G a w n0 Q hg hrel hfr hdf hn0 hag hfs hq)⟩
  | scope body =>
    have := scope_sound hr body rounds body f h ex f' h' e wf hsm
    refine ⟨this.1, fun κ G a w n0 Q hg hrel hfr hdf hn0 hag hfs hq b k cs => ?_⟩
    obtain ⟨e, a', w', hq', harr⟩ := this.2 κ G a w n0 Q hg hrel hfr hdf hn0 hag hfs hq b k cs
    exact ⟨e, a', w', hq', .of_steps (.one step_scope) harr⟩
  | region id ops draw =>
    cases draw with
    | true =>
      simp only [stepC, cond_true] at e
      split at e
      · rename_i f1 h1 hrg
        cases e
        obtain ⟨x1, s1⟩ := region_sound hm hs (id := id) hrg wf hsm
        refine ⟨x1, fun κ G a w n0 Q hg hrel hfr hdf hn0 hag hfs hq => s1 κ G a w Q hg hrel hfr hag hfs fun κ' a' w' q1 q2 q3 q4 => hq κ' .normal a' w' .normal q1 ⟨q2.size, q2.at_⟩ (by rw [q3]; exact hdf.keep q4) q4⟩
      · cases e
    | false =>
      simp only [stepC, cond_false] at e
      obtain ⟨x1, s1⟩ := runA_sound hs hcf _ _ _ _ _ _ e wf hsm
      exact ⟨x1, fun κ G a w n0 Q hg hrel hfr hdf hn0 hag hfs hq => wp_region (s1 κ G a w n0 Q hg hrel hfr hdf hn0 hag hfs hq)⟩
  | rangeFunc g ps assign body =>
    simp only [stepC] at e
    split at e
    · rename_i h1 hra
      cases e
      obtain ⟨x1, s1⟩ := rangeA_sound hcf (ps := ps) (assign := assign) (body := body) hra wf
      exact ⟨⟨x1.1, x1.2, rfl⟩, fun κ G a w n0 Q hg hrel hfr hdf hn0 hag hfs hq => s1 κ G a w n0 Q hg hrel hfr hdf hn0 hag hfs fun κ' a' w' q1 q2 q3 q4 => hq κ' .normal a' w' .normal q1 ⟨q2.size, q2.at_⟩ q3 q4⟩
    · cases e
  | refuse => cases e
end
end Go.Ev
namespace Go.Ev
open Go
section
variable {P : Program} {gl : Nat} {recF : RecF} {rec recC : RecC} {recS : RecS} {recD : RecD} {ev : OpEv}

/-! ### results -/

theorem sr_mapMl {α : Type} {κ : K} {f f' : α → Sem Value} (hf : ∀ x κ', κ.le κ' → SR P VR κ' (f x) (f' x)) : ∀ (l : List α) (κ' : K), κ.le κ' → SR P (fun κ a b => VL κ a b) κ' (l.mapM f) (l.mapM f')
  | [], _, _ => by simp only [List.mapM_nil]; exact .pure .nil
  | x :: l, κ', hk => by
    simp only [List.mapM_cons]
    refine SR.bind' (hf x κ' hk) fun κ1 v v' hk1 hv => ?_
    exact SR.bind' (sr_mapMl hf l κ1 (K.le_trans hk hk1)) fun κ2 vs vs' hk2 hvs => .pure (.cons (hv.mono hk2) hvs)
def resOf (get : Nat → Value) : ResultVar → Sem Value
  | .tmp t => pure (get t)
  | .cell a t => do loadVar t (← asAddr (get a))
theorem resultsF_eq (get : Nat → Value) (fn : Func) : resultsF get fn = (do
    let vs ← fn.results.mapM (resOf get)
    pure (if h : vs.size = 1 then vs[0] else .tuple vs)) := by
  unfold resultsF
  congr 1
theorem results_eq (fn : Func) (tmps : Array Value) : results fn tmps = resultsF (fun t => tmps.getD t undef) fn := rfl
def resPack (l : List Value) : Value := if h : (⟨l⟩ : Array Value).size = 1 then (⟨l⟩ : Array Value)[0] else .tuple ⟨l⟩
theorem resultsF_list (get : Nat → Value) (fn : Func) : resultsF get fn = (do
    let vs ← fn.results.toList.mapM (resOf get)
    pure (resPack vs)) := by
  rw [resultsF_eq, Array.mapM_eq_mapM_toList]
  simp only [map_eq_pure_bind, bind_assoc, pure_bind]
  rfl
theorem vr_pack {κ : K} {l l' : List Value} (h : VL κ l l') : VR κ (resPack l) (resPack l') := by
  unfold resPack
  cases h with
  | nil => exact .tuple .nil
  | cons h1 h2 => cases h2 with
    | nil => exact h1
    | cons h3 h4 => exact .tuple (.cons h1 (.cons h3 h4))
theorem sr_results {κ : K} {get get' : Nat → Value} (h : ∀ i, VR κ (get i) (get' i)) (fn : Func) : SR P VR κ (resultsF get fn) (resultsF get' fn) := by
  rw [resultsF_list, resultsF_list]
  refine SR.bind' (sr_mapMl (fun x κ' hk => ?_) _ κ (K.le_refl κ)) fun κ' a b _ hl => .pure (vr_pack hl)
  cases x with
  | tmp t => exact .pure ((h t).mono hk)
  | cell c t => exact SR.bind' (sr_asAddr ((h c).mono hk)) fun κ1 a a' _ ha => sr_loadVar t ha
theorem ro_resOf (get : Nat → Value) (x : ResultVar) : RO P (resOf get x) := by
  cases x with
  | tmp t => exact ro_pure _
  | cell c t => exact ro_bind (ro_asAddr _) fun a => ro_loadVar t a
theorem lo_resOf (get : Nat → Value) (x : ResultVar) : LO P (resOf get x) := by
  cases x with
  | tmp t => exact lo_pure _
  | cell c t => exact lo_bind (lo_asAddr _) fun a => lo_loadVar t a
theorem ro_results (get : Nat → Value) (fn : Func) : RO P (resultsF get fn) := by
  rw [resultsF_list]; exact ro_bind (ro_mapM (ro_resOf get) _) fun _ => ro_pure _
theorem lo_results (get : Nat → Value) (fn : Func) : LO P (resultsF get fn) := by
  rw [resultsF_list]; exact lo_bind (lo_mapM (lo_resOf get) _) fun _ => lo_pure _

theorem ofArgs_get : ∀ (l : List Value) (i : Nat) (t : T Value) (n : Nat), small n = true → i + l.length ≤ n → ∀ j, (ofArgs l i t).get j = if i ≤ j ∧ j < i + l.length then l[j - i]? else t.get j
  | [], i, t, n, hs, hn, j => by
    rw [if_neg (by simp)]; rfl
  | v :: l, i, t, n, hs, hn, j => by
    simp only [List.length_cons] at hn ⊢
    unfold ofArgs
    rw [ofArgs_get l (i + 1) _ n hs (by omega) j]
    have h1 := T.get_set 24 t i (some v) j (small_lt (small_of_lt hs (by omega)))
    by_cases hij : j = i
    · subst hij
      rw [if_neg (by omega), if_pos (by omega), h1, if_pos rfl]
      simp
    · by_cases hr : i + 1 ≤ j ∧ j < i + 1 + l.length
      · rw [if_pos hr, if_pos (by omega)]
        obtain ⟨k, rfl⟩ : ∃ k, j = i + 1 + k := ⟨j - (i + 1), by omega⟩
        have e1 : i + 1 + k - (i + 1) = k := by omega
        have e2 : i + 1 + k - i = k + 1 := by omega
        rw [e1, e2, List.getElem?_cons_succ]
      · rw [if_neg hr, if_neg (by omega), h1, if_neg hij]


/-! ### the way out -/

/-- As 'KX', but of blocks below a number alone. -/
structure KX0 (n0 : Nat) (h h' : AH) (κ κ' : K) (w w' : World) : Prop where
  le : κ.le κ'
  dom : ∀ id, ¬ (h.n ≤ id ∧ id < h'.n) → κ' id = κ id
  new : ∀ id b, κ' id = some b → κ id = some b ∨ w.heap.size ≤ b.blk ∨ ∃ i c, κ i = some c ∧ c.blk = b.blk ∧ h'.wr.testBit i = true
  keep : ∀ k, k < n0 → (∀ id b, κ id = some b → b.blk = k → h'.wr.testBit id = false) → w'.heap[k]? = w.heap[k]?
  same : Same w w'
theorem KX0.refl (n0 : Nat) (h : AH) (κ : K) (w : World) : KX0 n0 h h κ κ w w := ⟨K.le_refl κ, fun _ _ => rfl, fun _ _ e => .inl e, fun _ _ _ => rfl, Same.refl w⟩
theorem KX.to0 {n0 : Nat} {h h' : AH} {κ κ' : K} {w w' : World} (x : KX h h' κ κ' w w') (hn : n0 ≤ w.heap.size) : KX0 n0 h h' κ κ' w w' := ⟨x.le, x.dom, x.new, fun k hk => x.keep k (Nat.lt_of_lt_of_le hk hn), x.same⟩
theorem KX0.trans {n0 : Nat} {a b c : AH} {κ κ' κ'' : K} {w w' w'' : World} (e : Ext a b) (e' : Ext b c) (hn : n0 ≤ w.heap.size) (h : KX0 n0 a b κ κ' w w') (h' : KX0 n0 b c κ' κ'' w' w'') : KX0 n0 a c κ κ'' w w'' where
  le := K.le_trans h.le h'.le
  dom := fun id hn => by
    have h1 := e.n; have h2 := e'.n
    rw [h'.dom id (by omega), h.dom id (by omega)]
  new := fun id x hx => by
    rcases h'.new id x hx with h1 | h1 | ⟨i, y, hi, hy, hw⟩
    · rcases h.new id x h1 with h2 | h2 | ⟨i, y, hi, hy, hw⟩
      · exact .inl h2
      · exact .inr (.inl h2)
      · exact .inr (.inr ⟨i, y, hi, hy, e'.wr i hw⟩)
    · exact .inr (.inl (Nat.le_trans h.same.size h1))
    · rcases h.new i y hi with h2 | h2 | ⟨j, z, hj, hz, hw'⟩
      · exact .inr (.inr ⟨i, y, h2, hy, hw⟩)
      · exact .inr (.inl (by omega))
      · exact .inr (.inr ⟨j, z, hj, hz.trans hy, e'.wr j hw'⟩)
  keep := fun k hk hnw => by
    rw [h'.keep k hk, h.keep k hk]
    · intro id x hx hb
      cases e1 : b.wr.testBit id with
      | false => rfl
      | true => have := hnw id x hx hb; rw [e'.wr id e1] at this; cases this
    · intro id x hx hb
      rcases h.new id x hx with h2 | h2 | ⟨j, z, hj, hz, hw'⟩
      · exact hnw id x h2 hb
      · omega
      · have := hnw j z hj (hz.trans hb); rw [e'.wr j hw'] at this; cases this
  same := h.same.trans h'.same

theorem settle_rel {κ : K} {m : AM} {u : FrameMode} (h : AMR κ m u) : AMR κ (settleA m) (settle u) := by
  cases h with
  | ret => exact .ret
  | pan hv =>
    rename_i r
    cases r with
    | false => exact .pan hv
    | true => exact .ret
theorem amr_run {κ : K} {m : AM} {u : FrameMode} (h : AMR κ m u) : u ≠ .run := by cases h <;> simp
theorem DfR.shut {κ : K} {w w' : World} {n0 D : Nat} (hoth : ∀ k, k ≠ D → w'.heap[k]? = w.heap[k]?) {ds : List Dfr} {ds' : List Deferred} (h : DfR P κ w n0 ds ds') (hD : D ∉ marksOf ds') : DfR P κ w' n0 ds ds' := by
  induction h with
  | nil => exact .nil
  | mark h1 h2 h3 h4 _ ih =>
    simp only [marksOf, markD, List.mem_cons, not_or] at hD
    exact .mark h1 (by rw [hoth _ (Ne.symm hD.1)]; exact h2) h3 h4 (ih hD.2)
  | call hb hv _ ih => exact .call hb hv (ih (by simpa [marksOf] using hD))

theorem leaveA_sound (hd : DeferSound P gl recD) {fn : Func} {get : Nat → Value} : ∀ (ds : List Dfr) (m : AM) (h : AH) (en : AEnd) (h' : AH), leaveA P recD fn get ds m h = some (en, h') → WF h → (Ext h h' ∧ WF h') ∧
    ∀ (κ : K) (G : Nat → Option AObj) (u : FrameMode) (w : World) (ds' : List Deferred) (n0 : Nat) (fr : Frame) (cs : List Frame), KG gl κ → Rel P κ G w → (∀ i, VR κ (get i) (fr.tmps.getD i undef)) → AMR κ m u → DfR P κ w n0 ds ds' → n0 ≤ w.heap.size → Agree h h' G → Fresh h h' κ G →
      fr.mode = u → fr.defers = ds' → P.funcs[fr.fn]? = some fn → fr.kind = .normal →
      ∃ e w' fr' κ', EndR κ' en e ∧ Rel P κ' (merge h h' G) w' ∧ KX0 n0 h h' κ κ' w w' ∧ Comes P (lone fr cs w) (lone fr' cs w') e ∧ fr'.fn = fr.fn ∧ fr'.leaving P w' e := by
  intro ds
  induction ds with
  | nil =>
    intro m h en h' e wf
    cases m with
    | ret =>
      simp only [leaveA] at e
      split at e
      · rename_i v h1 he
        cases e
        have x2 := arun_ext P _ _ _ _ he wf
        have hlo := lo_results (P := P) _ _ _ _ _ he
        refine ⟨x2, fun κ G u w ds' n0 fr cs hg hrel hget hm hdf hn hag hfs hmode hds hf hk => ?_⟩
        cases hm
        cases hdf
        obtain ⟨v', hrun, hv⟩ := read_sim (sr_results (P := P) hget fn) (lo_results _ _) (ro_results _ _) he wf hrel hag
        refine ⟨.returned v', w, fr, κ, .ret hv, by rw [merge_read wf hlo hag]; exact hrel, ?_, Steps.refl _ _, rfl, hmode, hds, hk, fn, hf, hrun⟩
        exact ⟨K.le_refl κ, fun id hid => rfl, fun _ _ e => .inl e, fun _ _ _ => rfl, Same.refl w⟩
      · cases e
    | pan v r =>
      cases r with
      | true => simp only [leaveA] at e; cases e
      | false =>
        simp only [leaveA] at e
        cases e
        refine ⟨⟨Ext.refl _, wf⟩, fun κ G u w ds' n0 fr cs hg hrel hget hm hdf hn hag hfs hmode hds hf hk => ?_⟩
        cases hm with
        | pan hv =>
          cases hdf
          exact ⟨_, w, fr, κ, .pan hv, by rw [merge_self wf hag]; exact hrel, KX0.refl _ _ _ _, Steps.refl _ _, rfl, hmode, hds, fn, hf⟩
  | cons d ds ih =>
    intro m h en h' e wf
    cases d with
    | mark =>
      simp only [leaveA] at e
      obtain ⟨x1, s1⟩ := ih m h en h' e wf
      refine ⟨x1, fun κ G u w ds' n0 fr cs hg hrel hget hm hdf hn hag hfs hmode hds hf hk => ?_⟩
      cases hdf with
      | mark h1 h2 h3 h4 h5 =>
        rename_i D ds'
        have htake := run_takeDeferred (P := P) h2
        have hst := step_collected (P := P) (fr := fr) (cs := cs) (w := w) (by rw [hmode]; exact amr_run hm) hds rfl htake
        have hoth : ∀ k, k ≠ D → (w.putObj D (.deferred none)).heap[k]? = w.heap[k]? := fun k hk => by
          show (w.heap.setIfInBounds D (.deferred none))[k]? = _
          rw [Array.getElem?_setIfInBounds, if_neg (Ne.symm hk)]
        have hsz : (w.putObj D (.deferred none)).heap.size = w.heap.size := by show (w.heap.setIfInBounds D (.deferred none)).size = _; simp
        have hrel2 : Rel P κ G (w.putObj D (.deferred none)) := ⟨fun id o e => let ⟨y, r1, r2⟩ := hrel.at_ id o e; ⟨y, r1, r2.heap (hoth _ (h3 id y r1))⟩, hrel.one, fun id y hy => by rw [hsz]; exact hrel.old id y hy⟩
        obtain ⟨e, w', fr', κ', q1, q2, q3, q4, q5, q6⟩ := s1 κ G u (w.putObj D (.deferred none)) ds' n0 { fr with defers := [] ++ ds' } cs hg hrel2 hget hm (h5.shut hoth h4) (by rw [hsz]; exact hn) hag hfs hmode rfl hf hk
        refine ⟨e, w', fr', κ', q1, q2, ?_, Comes.of_steps (.one hst) q4, q5, q6⟩
        refine ⟨q3.le, q3.dom, fun id b hb => ?_, fun k hk hnw => ?_, ⟨q3.same.os, q3.same.tape, q3.same.output, by have := q3.same.size; rw [hsz] at this; exact this⟩⟩
        · have := q3.new id b hb
          rw [hsz] at this; exact this
        · rw [q3.keep k hk hnw, hoth k (by omega)]
    | call g args =>
      simp only [leaveA] at e
      split at e
      · rename_i m' h1 hrd
        obtain ⟨⟨x1, wf1⟩, s1⟩ := hd g args m h m' h1 hrd wf
        obtain ⟨⟨x2, wf2⟩, s2⟩ := ih (settleA m') h1 en h' e wf1
        refine ⟨⟨x1.trans x2, wf2⟩, fun κ G u w ds' n0 fr cs hg hrel hget hm hdf hn hag hfs hmode hds hf hk => ?_⟩
        cases hdf with
        | call hb hvl hdf =>
          rename_i captured' args' ds'
          have hinv : (invoke (.fn (.func g) ⟨captured'⟩) ⟨args'⟩).run P w = .ok (.enter g ((⟨args'⟩ : Array Value) ++ ⟨captured'⟩)) w := by
            simp only [invoke]
            exact run_callFunc hb _ _
          have hst := step_defer (P := P) (fr := fr) (cs := cs) (w := w) (by rw [hmode]; exact amr_run hm) hds rfl hinv
          obtain ⟨e1, u1, w1, frX, hR, hsteps, hkX, hgo⟩ := s1 κ G ((⟨args'⟩ : Array Value) ++ (⟨captured'⟩ : Array Value)) u w hg hrel (by simpa using hvl) hm (hag.left x2) (hfs.left x2) { fr with defers := ds' } cs hmode
          obtain ⟨κ1, v1, rfl, hm1, hrel1, hkx1⟩ := hR
          have hst2 := step_going_returned (P := P) (c := { { fr with defers := ds' } with mode := u1 }) (cs := cs) hkX hgo
          obtain ⟨e2, w2, fr2, κ2, q1, q2, q3, q4, q5, q6⟩ := s2 κ1 _ (settle u1) w1 ds' n0 { { { fr with defers := ds' } with mode := u1 } with mode := settle u1 } cs (hg.mono hkx1.le) hrel1 (fun i => (hget i).mono hkx1.le) (settle_rel hm1) (hdf.keep hkx1) (Nat.le_trans hn hkx1.same.size) (hag.right x1)
            (hfs.right x1 hkx1 fun id _ hw => wf1.wr id hw) rfl rfl hf hk
          exact ⟨e2, w2, fr2, κ2, q1, by rw [merge_merge x1 x2] at q2; exact q2, (hkx1.to0 hn).trans x1 x2 hn q3, Comes.of_steps (.head hst (Steps.trans hsteps (.one hst2))) q4, q5, q6⟩
      · cases e

theorem start_rel {κ : K} {args : List Value} {args' : Array Value} (hargs : VL κ args args'.toList) (k : Nat) (hsm : small (args.length + (k - args.length)) = true) :
    FrR κ { t := ofArgs args 0 .nil, n := args.length + (k - args.length) } { tmps := args' ++ Array.replicate (k - args'.size) undef, defers := [] } := by
  have hlen : args'.size = args.length := by have := hargs.length; simpa using this
  refine ⟨by simp [hlen], fun i => ?_⟩
  have e1 := ofArgs_get args 0 .nil (args.length + (k - args.length)) hsm (by omega) i
  simp only [Nat.zero_le, true_and, Nat.zero_add, Nat.sub_zero] at e1
  show VR κ (((ofArgs args 0 .nil).get i).getD undef) ((args' ++ Array.replicate (k - args'.size) undef).getD i undef)
  rw [e1, Array.getD_eq_getD_getElem?]
  by_cases hi : i < args.length
  · rw [if_pos hi, Array.getElem?_append_left (by omega)]
    rcases hargs.get i with ⟨a1, _⟩ | ⟨u, u', a1, a2, a3⟩
    · simp at a1; omega
    · rw [a1]
      have : args'[i]? = some u' := by simpa using a2
      rw [this]; exact a3
  · rw [if_neg hi, Array.getElem?_append_right (by omega)]
    have : (Array.replicate (k - args'.size) undef)[i - args'.size]?.getD undef = undef := by
      rw [Array.getElem?_replicate]; split <;> rfl
    rw [this]
    exact VR.flat _ undef_flat

theorem stepF_sound (hr : CodeSound P gl recC) (hd : DeferSound P gl recD) : CallSound P gl (stepF P recC recD) := by
  intro g args h en h' e wf
  unfold stepF at e
  split at e
  · cases e
  rename_i fn hfn
  split at e
  · cases e
  rename_i c hbody
  cases hsm : small (args.length + (fn.ntmps - args.length)) with
  | false => rw [hsm] at e; cases e
  | true =>
    rw [hsm] at e
    simp only [cond_true] at e
    have main : ∀ (ex : AExit) (m : AM) (f' : Fr) (h1 : AH), ((ex = .normal ∨ ex = .ret) ∧ m = .ret ∨ ∃ v, ex = .panic v ∧ m = .pan v false) → recC c { t := ofArgs args 0 .nil, n := args.length + (fn.ntmps - args.length) } h = some (ex, f', h1) → leaveA P recD fn f'.get f'.ds m h1 = some (en, h') →
        (Ext h h' ∧ WF h') ∧ ∀ (κ : K) (G : Nat → Option AObj) (args' : Array Value) (w : World), KG gl κ → Rel P κ G w → VL κ args args'.toList → Agree h h' G → Fresh h h' κ G →
          Calls P g args' w fun e w' => ∃ κ', EndR κ' en e ∧ Rel P κ' (merge h h' G) w' ∧ KX h h' κ κ' w w' := by
      intro ex m f' h1 hex hc he
      obtain ⟨⟨x1, wf1, hn1⟩, s1⟩ := hr _ _ _ _ _ _ hc wf hsm
      obtain ⟨⟨x2, wf2⟩, s2⟩ := leaveA_sound hd f'.ds m h1 en h' he wf1
      refine ⟨⟨x1.trans x2, wf2⟩, fun κ G args' w hg hrel hargs hag hfs cs => ?_⟩
      let b : Frame := { (default : Frame) with fn := g, kind := .normal }
      have henter : Frame.enter P g args' .normal = b.at { tmps := args' ++ Array.replicate (fn.ntmps - args'.size) undef, defers := [] } [.code c] := by
        simp [Frame.enter, Frame.at, hfn, hbody, b]
      have := s1 κ G { tmps := args' ++ Array.replicate (fn.ntmps - args'.size) undef, defers := [] } w w.heap.size (fun e a1 w1 => ∃ κ1, ExR κ1 ex e ∧ Rel P κ1 (merge h h1 G) w1 ∧ FrR κ1 f' a1 ∧ DfR P κ1 w1 w.heap.size f'.ds a1.defers ∧ KX h h1 κ κ1 w w1)
        hg hrel (start_rel hargs fn.ntmps hsm) .nil (Nat.le_refl _) (hag.left x2) (hfs.left x2) fun κ1 ex1 a1 w1 q0 q1 q2 q3 q4 => ⟨κ1, q0, q1, q2, q3, q4⟩
      obtain ⟨e1, a1, w1, ⟨κ1, q0, q1, q2, q3, q4⟩, harr⟩ := this b [] cs
      rw [← henter] at harr
      have fin : ∀ (u : FrameMode) (todo : List Item), AMR κ1 m u → Steps P (lone (Frame.enter P g args' .normal) cs w) (lone { b.at a1 todo with mode := u } cs w1) →
          ∃ e w' fr, (∃ κ', EndR κ' en e ∧ Rel P κ' (merge h h' G) w' ∧ KX h h' κ κ' w w') ∧ Comes P (lone (Frame.enter P g args' .normal) cs w) (lone fr cs w') e ∧ fr.fn = g ∧ fr.leaving P w' e := by
        intro u todo hm hst
        obtain ⟨e2, w2, fr2, κ2, r1, r2, r3, r4, r5, r6⟩ := s2 κ1 _ u w1 a1.defers w.heap.size { b.at a1 todo with mode := u } cs (hg.mono q4.le) q1 q2.at_ hm q3 q4.same.size (hag.right x1) (hfs.right x1 q4 fun id _ hw => wf1.wr id hw) rfl rfl hfn rfl
        have hkx := (q4.to0 (n0 := w.heap.size) (Nat.le_refl _)).trans x1 x2 (Nat.le_refl _) r3
        exact ⟨e2, w2, fr2, ⟨κ2, r1, by rw [merge_merge x1 x2] at r2; exact r2, ⟨hkx.le, hkx.dom, hkx.new, hkx.keep, hkx.same⟩⟩, Comes.of_steps hst r4, r5, r6⟩
      rcases hex with ⟨rfl | rfl, rfl⟩ | ⟨v, rfl, rfl⟩
      · cases q0
        exact fin .returning [] .ret (Steps.trans harr (.one step_end))
      · cases q0
        obtain ⟨todo, hs⟩ := harr
        exact fin .returning todo .ret hs
      · cases q0 with
        | panic hv =>
          obtain ⟨todo, hs⟩ := harr
          exact fin _ todo (.pan hv) hs
    split at e
    · rename_i f' h1 hc; exact main _ _ _ _ (.inl ⟨.inl rfl, rfl⟩) hc e
    · rename_i f' h1 hc; exact main _ _ _ _ (.inl ⟨.inr rfl, rfl⟩) hc e
    · rename_i v f' h1 hc; exact main _ _ _ _ (.inr ⟨v, rfl, rfl⟩) hc e
    · cases e
end
end Go.Ev
namespace Go.Ev
open Go
section
variable {P : Program} {gl : Nat} {recF : RecF} {recC : RecC} {recS : RecS} {ev : OpEv}

def inBlockS (id : Nat) (Q : Exit → Act → List Frame → World → Prop) : Exit → Act → List Frame → World → Prop
  | .exit id', a, cs, w => if id' = id then Q .normal a cs w else Q (.exit id') a cs w
  | e, a, cs, w => Q e a cs w
theorem wpS_block {Q : Exit → Act → List Frame → World → Prop} {a : Act} {cs : List Frame} {w : World} {id : Nat} {c : Code} (h : c.wpS P (inBlockS id Q) a cs w) : (Code.block id c).wpS P Q a cs w := by
  intro b k hb hr
  obtain ⟨e, a₁, cs₁, w₁, hq, harr⟩ := h b (.inBlock id :: k) hb hr
  cases e with
  | normal => exact ⟨.normal, a₁, cs₁, w₁, hq, .head step_block (Steps.trans harr (.one step_inBlock))⟩
  | exit id' =>
    by_cases hid : id' = id
    · simp only [inBlockS, hid, if_true] at hq
      exact ⟨.normal, a₁, cs₁, w₁, hq, .head step_block (harr k (by simp [exitTo, hid]))⟩
    · simp only [inBlockS, hid, if_false] at hq
      refine ⟨.exit id', a₁, cs₁, w₁, hq, fun k' hk => .head step_block (harr k' ?_)⟩
      have : (id == id') = false := by simp; exact fun h => hid h.symm
      simp [exitTo, this, hk]
  | goto l => exact ⟨_, a₁, cs₁, w₁, hq, fun k' hk => .head step_block (harr k' (by simp [gotoIn, hk]))⟩
  | ret => exact ⟨_, a₁, cs₁, w₁, hq, .of_steps (.one step_block) harr⟩
  | panic ch => exact ⟨_, a₁, cs₁, w₁, hq, .of_steps (.one step_block) harr⟩
  | outgrown => exact ⟨_, a₁, cs₁, w₁, hq, .of_steps (b := b) (k := k) (cs := cs₁) (e := .outgrown) (.one step_block) harr⟩
theorem exit_thenS {κ : K} {Q : Exit → Act → List Frame → World → Prop} {next : Act → List Frame → World → Prop} {ex : AExit} {ex' : Exit} {a : Act} {cs : List Frame} {w : World} (hx : ExR κ ex ex') (hn : ex ≠ .normal) (h : Q ex' a cs w) : Exit.thenS next Q ex' a cs w := by
  cases hx with
  | normal => exact absurd rfl hn
  | _ => exact h

theorem recover_run {o : Oper} (h : isRecover o = true) (a : Act) (w : World) : (execOp a.eval o).run P w = .ok .recover w := by
  unfold isRecover at h
  split at h
  · rename_i c ho
    split at h
    · rename_i hc
      simp [execOp, ho, resolve, hc, invoke, builtin]
    · cases h
  · cases h
theorem wpOpsS_plain {ops : Array Oper} {i : Nat} {rest : List Nat} {o : Oper} {a : Act} {cs : List Frame} {w : World} {Q : Exit → Act → List Frame → World → Prop} (ho : ops[i]? = some o) (hw : Region.wanted o (yielded ops a.tmps) = true)
    (h : o.wp P a w (fun a' w' => wpOpsS P ops Q rest a' cs w') (fun e a' w' => Q e a' cs w')) : wpOpsS P ops Q (i :: rest) a cs w := by
  simp only [wpOpsS, ho, hw, if_true]
  unfold Oper.wp at h
  split
  · rename_i w' hr
    rw [hr] at h
    exact h.elim
  · exact h

theorem runS_sound (hs : OpSound P gl ev) (hr : CallSound P gl recF) {ops : Array Oper} : ∀ (l : List Nat) (f : Fr) (m : AM) (h : AH) (ex : AExit) (f' : Fr) (m' : AM) (h' : AH), runS P gl recF ev ops l f m h = some (ex, f', m', h') → WF h → small f.n = true → (Ext h h' ∧ WF h' ∧ f'.n = f.n) ∧
    ∀ (κ : K) (G : Nat → Option AObj) (a : Act) (u : FrameMode) (c0 : Frame) (cs : List Frame) (w : World) (n0 : Nat) (Q : Exit → Act → List Frame → World → Prop), KG gl κ → Rel P κ G w → FrR κ f a → AMR κ m u → DfR P κ w n0 f.ds a.defers → n0 ≤ w.heap.size →
      Agree h h' G → Fresh h h' κ G →
      (∀ κ' ex' a' u' w', ExR κ' ex ex' → Rel P κ' (merge h h' G) w' → FrR κ' f' a' → AMR κ' m' u' → DfR P κ' w' n0 f'.ds a'.defers → KX h h' κ κ' w w' → Q ex' a' ({ c0 with mode := u' } :: cs) w') → wpOpsS P ops Q l a ({ c0 with mode := u } :: cs) w := by
  intro l
  induction l with
  | nil =>
    intro f m h ex f' m' h' e wf hsm
    cases e
    exact ⟨⟨Ext.refl _, wf, rfl⟩, fun κ G a u c0 cs w n0 Q hg hrel hfr hm hdf hn hag hfs hq => hq κ .normal a u w .normal (by rw [merge_self wf hag]; exact hrel) hfr hm hdf (KX.refl _ _ _)⟩
  | cons i l ih =>
    intro f m h ex f' m' h' e wf hsm
    simp only [runS] at e
    split at e
    · rename_i ho
      obtain ⟨x1, s1⟩ := ih f m h ex f' m' h' e wf hsm
      refine ⟨x1, fun κ G a u c0 cs w n0 Q hg hrel hfr hm hdf hn hag hfs hq => ?_⟩
      simp only [wpOpsS, ho]
      exact s1 κ G a u c0 cs w n0 Q hg hrel hfr hm hdf hn hag hfs hq
    · rename_i o ho
      cases hw : Region.wanted o (yieldedA ops f) with
      | false =>
        rw [hw] at e
        simp only [cond_false] at e
        obtain ⟨x1, s1⟩ := ih _ m h ex f' m' h' e wf (by rw [Fr.n_put]; exact hsm)
        refine ⟨⟨x1.1, x1.2.1, x1.2.2.trans (Fr.n_put _ _ _)⟩, fun κ G a u c0 cs w n0 Q hg hrel hfr hm hdf hn hag hfs hq => ?_⟩
        simp only [wpOpsS, ho]
        rw [yielded_rel (f := f) (κ := κ) fun t _ => hfr.at_ t, hw]
        simp only [Bool.false_eq_true, if_false]
        exact s1 κ G _ u c0 cs w n0 Q hg hrel (hfr.put hsm o.dst (VR.flat _ undef_flat)) hm (by rw [put_ds, put_defers]; exact hdf) hn hag hfs hq
      | true =>
        rw [hw] at e
        simp only [cond_true] at e
        cases hrc : isRecover o with
        | true =>
          rw [hrc] at e
          simp only [cond_true] at e
          have go : ∀ (v : Value) (m1 : AM), runS P gl recF ev ops l (f.put o.dst v) m1 h = some (ex, f', m', h') → (∀ κ u, AMR κ m u → ∃ v' u', VR κ v v' ∧ AMR κ m1 u' ∧ ∀ (c0 : Frame) (cs : List Frame),
                (match recoverD ({ c0 with mode := u } :: cs) with | some (x, cs') => (x, cs') | none => (.nilIface, { c0 with mode := u } :: cs)) = (v', { c0 with mode := u' } :: cs)) →
              (Ext h h' ∧ WF h' ∧ f'.n = f.n) ∧
              ∀ (κ : K) (G : Nat → Option AObj) (a : Act) (u : FrameMode) (c0 : Frame) (cs : List Frame) (w : World) (n0 : Nat) (Q : Exit → Act → List Frame → World → Prop), KG gl κ → Rel P κ G w → FrR κ f a → AMR κ m u → DfR P κ w n0 f.ds a.defers → n0 ≤ w.heap.size →
                Agree h h' G → Fresh h h' κ G →
                (∀ κ' ex' a' u' w', ExR κ' ex ex' → Rel P κ' (merge h h' G) w' → FrR κ' f' a' → AMR κ' m' u' → DfR P κ' w' n0 f'.ds a'.defers → KX h h' κ κ' w w' → Q ex' a' ({ c0 with mode := u' } :: cs) w') → wpOpsS P ops Q (i :: l) a ({ c0 with mode := u } :: cs) w := by
            intro v m1 e hrec
            obtain ⟨x1, s1⟩ := ih _ m1 h ex f' m' h' e wf (by rw [Fr.n_put]; exact hsm)
            refine ⟨⟨x1.1, x1.2.1, x1.2.2.trans (Fr.n_put _ _ _)⟩, fun κ G a u c0 cs w n0 Q hg hrel hfr hm hdf hn hag hfs hq => ?_⟩
            obtain ⟨v', u', hv, hm1, hcs⟩ := hrec κ u hm
            have hcs := hcs c0 cs
            have hwant : Region.wanted o (yielded ops a.tmps) = true := by rw [yielded_rel (f := f) (κ := κ) fun t _ => hfr.at_ t]; exact hw
            have hnext := s1 κ G (a.put o.dst v') u' c0 cs w n0 Q hg hrel (hfr.put hsm o.dst hv) hm1 (by rw [put_ds, put_defers]; exact hdf) hn hag hfs hq
            simp only [wpOpsS, ho, hwant, if_true, recover_run hrc]
            cases hrd : recoverD ({ c0 with mode := u } :: cs) with
            | none =>
              rw [hrd] at hcs
              simp only [Prod.mk.injEq] at hcs
              obtain ⟨h1, h2⟩ := hcs
              simp only []
              rw [h1, h2]
              exact hnext
            | some x =>
              obtain ⟨x1, x2⟩ := x
              rw [hrd] at hcs
              simp only [Prod.mk.injEq] at hcs
              obtain ⟨h1, h2⟩ := hcs
              simp only []
              rw [h1, h2]
              exact hnext
          split at e
          · rename_i v
            refine go v (.pan v true) e fun κ u hm => ?_
            cases hm with
            | pan hv => exact ⟨_, _, hv, .pan hv, fun c0 cs => rfl⟩
          · rename_i m1 hne
            refine go .nilIface m e fun κ u hm => ⟨.nilIface, u, .nilIface, hm, fun c0 cs => ?_⟩
            cases hm with
            | ret => rfl
            | pan hv =>
              rename_i v v' r
              cases r with
              | true => rfl
              | false => exact absurd rfl (hne v)
        | false =>
          rw [hrc] at e
          simp only [cond_false] at e
          split at e
          · rename_i f1 h1 ho1
            obtain ⟨⟨x1, wf1, hn1⟩, s1⟩ := oneA_sound hs hr ho1 wf hsm
            obtain ⟨⟨x2, wf2, hn2⟩, s2⟩ := ih f1 m h1 ex f' m' h' e wf1 (by rw [hn1]; exact hsm)
            refine ⟨⟨x1.trans x2, wf2, hn2.trans hn1⟩, fun κ G a u c0 cs w n0 Q hg hrel hfr hm hdf hn hag hfs hq => ?_⟩
            refine wpOpsS_plain ho (by rw [yielded_rel (f := f) (κ := κ) fun t _ => hfr.at_ t]; exact hw) ?_
            refine s1 κ G a w n0 _ _ hg hrel hfr hdf hn (hag.left x2) (hfs.left x2) fun κ1 ex1 a1 w1 q0 q1 q2 q3 q4 => ?_
            cases q0
            refine ⟨fun _ => ?_, fun hne => absurd rfl hne⟩
            exact s2 κ1 _ a1 u c0 cs w1 n0 Q (hg.mono q4.le) q1 q2 (hm.mono q4.le) q3 (Nat.le_trans hn (step_kx q4)) (hag.right x1) (hfs.right x1 q4 fun id _ hw => wf1.wr id hw) fun κ2 ex2 a2 u2 w2 r0 r1 r2 r3 r4 r5 =>
              hq κ2 ex2 a2 u2 w2 r0 (by rw [merge_merge x1 x2] at r1; exact r1) r2 r3 r4 (q4.trans x1 x2 r5)
          · rename_i x f1 h1 hne ho1
            cases e
            obtain ⟨x1, s1⟩ := oneA_sound hs hr ho1 wf hsm
            refine ⟨x1, fun κ G a u c0 cs w n0 Q hg hrel hfr hm hdf hn hag hfs hq => ?_⟩
            refine wpOpsS_plain ho (by rw [yielded_rel (f := f) (κ := κ) fun t _ => hfr.at_ t]; exact hw) ?_
            refine s1 κ G a w n0 _ _ hg hrel hfr hdf hn hag hfs fun κ1 ex1 a1 w1 q0 q1 q2 q3 q4 => ⟨fun hex => ?_, fun _ => hq κ1 ex1 a1 u w1 q0 q1 q2 (hm.mono q4.le) q3 q4⟩
            subst hex
            cases q0
            simp at hne
          · cases e

theorem stepS_sound (hs : OpSound P gl ev) (hcf : CallSound P gl recF) (hr : CodeSound P gl recC) (hrs : SoundS P gl recS) : SoundS P gl (stepS P gl ev recF recC recS) := by
  intro c f m h ex f' m' h' e wf hsm
  have via : (match recC c f h with | some (x, f1, h1) => some (x, f1, m, h1) | none => none) = some (ex, f', m', h') → (Ext h h' ∧ WF h' ∧ f'.n = f.n) ∧
    ∀ (κ : K) (G : Nat → Option AObj) (a : Act) (u : FrameMode) (c0 : Frame) (cs : List Frame) (w : World) (n0 : Nat) (Q : Exit → Act → List Frame → World → Prop), KG gl κ → Rel P κ G w → FrR κ f a → AMR κ m u → DfR P κ w n0 f.ds a.defers → n0 ≤ w.heap.size →
      Agree h h' G → Fresh h h' κ G →
      (∀ κ' ex' a' u' w', ExR κ' ex ex' → Rel P κ' (merge h h' G) w' → FrR κ' f' a' → AMR κ' m' u' → DfR P κ' w' n0 f'.ds a'.defers → KX h h' κ κ' w w' → Q ex' a' ({ c0 with mode := u' } :: cs) w') → c.wpS P Q a ({ c0 with mode := u } :: cs) w := by
    intro e
    split at e
    · rename_i x f1 h1 hc
      cases e
      obtain ⟨x1, s1⟩ := hr _ _ _ _ _ _ hc wf hsm
      exact ⟨x1, fun κ G a u c0 cs w n0 Q hg hrel hfr hm hdf hn hag hfs hq => wpS_of_wp (s1 κ G a w n0 _ hg hrel hfr hdf hn hag hfs fun κ' ex' a' w' q0 q1 q2 q3 q4 => hq κ' ex' a' u w' q0 q1 q2 (hm.mono q4.le) q3 q4)⟩
    · cases e
  cases c with
  | seq x y =>
    simp only [stepS] at e
    split at e
    · rename_i f1 m1 h1 hc
      obtain ⟨⟨x1, wf1, hn1⟩, s1⟩ := hrs _ _ _ _ _ _ _ _ hc wf hsm
      obtain ⟨⟨x2, wf2, hn2⟩, s2⟩ := hrs _ _ _ _ _ _ _ _ e wf1 (by rw [hn1]; exact hsm)
      refine ⟨⟨x1.trans x2, wf2, hn2.trans hn1⟩, fun κ G a u c0 cs w n0 Q hg hrel hfr hm hdf hn hag hfs hq => wpS_seq ?_⟩
      refine s1 κ G a u c0 cs w n0 _ hg hrel hfr hm hdf hn (hag.left x2) (hfs.left x2) fun κ1 ex1 a1 u1 w1 q0 q1 q2 q3 q4 q5 => ?_
      cases q0
      refine s2 κ1 _ a1 u1 c0 cs w1 n0 Q (hg.mono q5.le) q1 q2 q3 q4 (Nat.le_trans hn (step_kx q5)) (hag.right x1) (hfs.right x1 q5 fun id _ hw => wf1.wr id hw) fun κ2 ex2 a2 u2 w2 r0 r1 r2 r3 r4 r5 => ?_
      exact hq κ2 ex2 a2 u2 w2 r0 (by rw [merge_merge x1 x2] at r1; exact r1) r2 r3 r4 (q5.trans x1 x2 r5)
    · rename_i hne
      obtain ⟨x1, s1⟩ := hrs _ _ _ _ _ _ _ _ e wf hsm
      refine ⟨x1, fun κ G a u c0 cs w n0 Q hg hrel hfr hm hdf hn hag hfs hq => wpS_seq ?_⟩
      refine s1 κ G a u c0 cs w n0 _ hg hrel hfr hm hdf hn hag hfs fun κ' ex' a' u' w' q0 q1 q2 q3 q4 q5 => exit_thenS q0 ?_ (hq κ' ex' a' u' w' q0 q1 q2 q3 q4 q5)
      rintro rfl
      exact hne f' m' h' e
  | cond c x y =>
    simp only [stepS] at e
    cases ho : operandOk gl c with
    | false => rw [ho] at e; cases e
    | true =>
      rw [ho] at e
      simp only [cond_true] at e
      have hev : ∀ {κ : K} {a : Act} {b : Bool}, KG gl κ → FrR κ f a → f.eval c = .bool b → a.eval c = .bool b := by
        intro κ a b hg hfr hb
        have := eval_rel hg (x := c) (f := f) (a := a) (fun t _ => hfr.at_ t) ho
        rw [hb] at this
        generalize a.eval c = v at this
        cases this; rfl
      split at e
      · rename_i hb
        obtain ⟨x1, s1⟩ := hrs _ _ _ _ _ _ _ _ e wf hsm
        exact ⟨x1, fun κ G a u c0 cs w n0 Q hg hrel hfr hm hdf hn hag hfs hq => wpS_cond (hev hg hfr hb) (s1 κ G a u c0 cs w n0 Q hg hrel hfr hm hdf hn hag hfs hq)⟩
      · rename_i hb
        obtain ⟨x1, s1⟩ := hrs _ _ _ _ _ _ _ _ e wf hsm
        exact ⟨x1, fun κ G a u c0 cs w n0 Q hg hrel hfr hm hdf hn hag hfs hq => wpS_cond (hev hg hfr hb) (s1 κ G a u c0 cs w n0 Q hg hrel hfr hm hdf hn hag hfs hq)⟩
      · cases e
  | block id c =>
    simp only [stepS] at e
    split at e
    · rename_i id' f1 m1 h1 hc
      cases e
      obtain ⟨x1, s1⟩ := hrs _ _ _ _ _ _ _ _ hc wf hsm
      refine ⟨x1, fun κ G a u c0 cs w n0 Q hg hrel hfr hm hdf hn hag hfs hq => wpS_block ?_⟩
      refine s1 κ G a u c0 cs w n0 _ hg hrel hfr hm hdf hn hag hfs fun κ' ex' a' u' w' q0 q1 q2 q3 q4 q5 => ?_
      cases q0
      show if id' = id then Q .normal a' _ w' else Q (.exit id') a' _ w'
      by_cases hid : id' = id
      · rw [if_pos hid]
        exact hq κ' .normal a' u' w' (by rw [beq_eq]; simp only [hid, decide_true, cond_true]; exact .normal) q1 q2 q3 q4 q5
      · rw [if_neg hid]
        exact hq κ' (.exit id') a' u' w' (by rw [beq_eq]; simp only [hid, decide_false, cond_false]; exact .exit id') q1 q2 q3 q4 q5
    · rename_i hne
      obtain ⟨x1, s1⟩ := hrs _ _ _ _ _ _ _ _ e wf hsm
      refine ⟨x1, fun κ G a u c0 cs w n0 Q hg hrel hfr hm hdf hn hag hfs hq => wpS_block ?_⟩
      refine s1 κ G a u c0 cs w n0 _ hg hrel hfr hm hdf hn hag hfs fun κ' ex' a' u' w' q0 q1 q2 q3 q4 q5 => ?_
      have := hq κ' ex' a' u' w' q0 q1 q2 q3 q4 q5
      cases q0 with
      | exit id' => exact absurd e (hne id' f' m' h')
      | _ => exact this
  | region id ops draw =>
    cases draw with
    | true => exact via e
    | false =>
      simp only [stepS, cond_false] at e
      obtain ⟨x1, s1⟩ := runS_sound hs hcf _ _ _ _ _ _ _ _ e wf hsm
      exact ⟨x1, fun κ G a u c0 cs w n0 Q hg hrel hfr hm hdf hn hag hfs hq => wpS_region (s1 κ G a u c0 cs w n0 Q hg hrel hfr hm hdf hn hag hfs hq)⟩
  | _ => exact via e

theorem stepD_sound (hrs : SoundS P gl recS) : DeferSound P gl (stepD P recS) := by
  intro g args m h m' h' e wf
  unfold stepD at e
  split at e
  · cases e
  rename_i fn hfn
  split at e
  · cases e
  rename_i c hbody
  cases hsm : small (args.length + (fn.ntmps - args.length)) with
  | false => rw [hsm] at e; cases e
  | true =>
    rw [hsm] at e
    simp only [cond_true] at e
    have main : ∀ (ex : AExit) (f' : Fr) (m1 : AM) (h1 : AH), (ex = .normal ∨ ex = .ret) → recS c { t := ofArgs args 0 .nil, n := args.length + (fn.ntmps - args.length) } m h = some (ex, f', m1, h1) →
        (match f'.ds, arun P (resultsF f'.get fn) h1 with | [], some (_, h2) => some (m1, h2) | _, _ => none) = some (m', h') →
        (Ext h h' ∧ WF h') ∧ ∀ (κ : K) (G : Nat → Option AObj) (args' : Array Value) (u : FrameMode) (w : World), KG gl κ → Rel P κ G w → VL κ args args'.toList → AMR κ m u → Agree h h' G → Fresh h h' κ G →
          CallsD P g args' u w fun e u' w' => ∃ κ' v, e = .returned v ∧ AMR κ' m' u' ∧ Rel P κ' (merge h h' G) w' ∧ KX h h' κ κ' w w' := by
      intro ex f' m1 h1 hex hc e
      split at e
      · rename_i v h2 hds he
        cases e
        obtain ⟨⟨x1, wf1, hn1⟩, s1⟩ := hrs _ _ _ _ _ _ _ _ hc wf hsm
        have x2 := arun_ext P _ _ _ _ he wf1
        have hlo := lo_results (P := P) _ _ _ _ _ he
        refine ⟨⟨x1.trans x2.1, x2.2⟩, fun κ G args' u w hg hrel hargs hm hag hfs => ?_⟩
        refine callsD_of_wpS hfn hbody fun c0 cs hc0 => ?_
        have hc0' : c0 = { c0 with mode := u } := by subst hc0; rfl
        rw [hc0']
        refine s1 κ G _ u c0 cs w w.heap.size _ hg hrel (start_rel hargs fn.ntmps hsm) hm .nil (Nat.le_refl _) (hag.left x2.1) (hfs.left x2.1) fun κ1 ex1 a1 u1 w1 q0 q1 q2 q3 q4 q5 => ?_
        rw [hds] at q4
        have hd0 : a1.defers = [] := by
          generalize a1.defers = dd at q4
          cases q4
          rfl
        have hag1 := hag.right x1
        obtain ⟨v', hrun, hv⟩ := read_sim (sr_results (P := P) q2.at_ fn) (lo_results _ _) (ro_results _ _) he wf1 q1 hag1
        have hmr := merge_read wf1 hlo hag1
        have hfin : ∃ κ' v'', Ending.returned v' = .returned v'' ∧ AMR κ' m' u1 ∧ Rel P κ' (merge h h' G) w1 ∧ KX h h' κ κ' w w1 := by
          refine ⟨κ1, v', rfl, q3, ?_, q5.le, fun id hid => q5.dom id (by have := hlo.2.1; omega), fun id b hb => ?_, fun k hk hn => ?_, q5.same⟩
          · have := merge_merge (G := G) x1 x2.1
            rw [hmr] at this
            rw [← this]; exact q1
          · have := q5.new id b hb
            rw [hlo.2.2]; exact this
          · exact q5.keep k hk (by rw [← hlo.2.2]; exact hn)
        rcases hex with rfl | rfl
        · cases q0; exact ⟨hd0, u1, rfl, v', hrun, hfin⟩
        · cases q0; exact ⟨hd0, u1, rfl, v', hrun, hfin⟩
      · cases e
    split at e
    · rename_i f' m1 h1 hc; exact main _ _ _ _ (.inl rfl) hc e
    · rename_i f' m1 h1 hc; exact main _ _ _ _ (.inr rfl) hc e
    · cases e
end
end Go.Ev
