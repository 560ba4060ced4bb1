/- The evaluator over code and calls, deferred calls and panics with it. Holds for every program. -/
import Derived.Test.YtnfijnioclcnmaaDoorEvAll
import Derived.Test.YtnfijnioclcnmaaDoorEvDraw3
import Derived.LoopN
import Derived.Scope
import Derived.Recover
import Derived.RangeFuncLeaves
import Derived.RangeFuncRecord
import Derived.AtR
namespace Go.Ev
open Go

/-! ### what the parts hand to each other, and what that stands for -/

inductive ExR (κ : K) : AExit → Exit → Prop
  | normal : ExR κ .normal .normal
  | exit (id : Nat) : ExR κ (.exit id) (.exit id)
  | goto (l : Nat) : ExR κ (.goto l) (.goto l)
  | ret : ExR κ .ret .ret
  | panic {v v' : Value} : VR κ v v' → ExR κ (.panic v) (.panic [{ v := v', recovered := false }])
inductive EndR (κ : K) : AEnd → Ending → Prop
  | ret {v v' : Value} : VR κ v v' → EndR κ (.ret v) (.returned v')
  | pan {v v' : Value} : VR κ v v' → EndR κ (.pan v) (.panicked [{ v := v', recovered := false }])
inductive AMR (κ : K) : AM → FrameMode → Prop
  | ret : AMR κ .ret .returning
  | pan {v v' : Value} {r : Bool} : VR κ v v' → AMR κ (.pan v r) (.panicking [{ v := v', recovered := r }])
theorem AMR.mono {κ κ' : K} (hk : κ.le κ') {m : AM} {u : FrameMode} (h : AMR κ m u) : AMR κ' m u := by
  cases h with
  | ret => exact .ret
  | pan h => exact .pan (h.mono hk)

def markD (D : Nat) : Deferred := { target := .collected D, args := #[] }
def marksOf : List Deferred → List Nat
  | [] => []
  | d :: ds => match d.target with
    | .collected D => D :: marksOf ds
    | _ => marksOf ds
/-- The deferred calls that an activation has gathered: of functions, and the marks of its ranges over functions. -/
inductive DfR (P : Program) (κ : K) (w : World) (n0 : Nat) : List Dfr → List Deferred → Prop
  | nil : DfR P κ w n0 [] []
  | mark {D : Nat} {ds : List Dfr} {ds' : List Deferred} : n0 ≤ D → w.heap[D]? = some (.deferred (some [])) → (∀ id b, κ id = some b → b.blk ≠ D) → D ∉ marksOf ds' → DfR P κ w n0 ds ds' → DfR P κ w n0 (.mark :: ds) (markD D :: ds')
  | call {g : FuncId} {args captured' args' : List Value} {ds : List Dfr} {ds' : List Deferred} : hasBody P g = true → VL κ args (args' ++ captured') → DfR P κ w n0 ds ds' →
      DfR P κ w n0 (.call g args :: ds) ({ target := .fn (.func g) ⟨captured'⟩, args := ⟨args'⟩ } :: ds')

theorem kept {b c : AH} {κ1 κ2 : K} {w1 w2 : World} (hk : KX b c κ1 κ2 w1 w2) {D : Nat} {o : Obj} (ho : w1.heap[D]? = some o) (hn : ∀ id b, κ1 id = some b → b.blk ≠ D) :
    w2.heap[D]? = some o ∧ ∀ id b, κ2 id = some b → b.blk ≠ D := by
  have hlt : D < w1.heap.size := (Array.getElem?_eq_some_iff.1 ho).1
  refine ⟨by rw [hk.keep D hlt fun id b hb hbk => absurd hbk (hn id b hb)]; exact ho, fun id x hx hxd => ?_⟩
  rcases hk.new id x hx with h | h | ⟨i, y, hi, hy, _⟩
  · exact hn id x h hxd
  · omega
  · exact hn i y hi (hy.trans hxd)
theorem DfR.keep {P : Program} {b c : AH} {κ1 κ2 : K} {w1 w2 : World} {n0 : Nat} (hk : KX b c κ1 κ2 w1 w2) {ds : List Dfr} {ds' : List Deferred} (h : DfR P κ1 w1 n0 ds ds') : DfR P κ2 w2 n0 ds ds' := by
  induction h with
  | nil => exact .nil
  | mark h1 h2 h3 h4 _ ih =>
    obtain ⟨q1, q2⟩ := kept hk h2 h3
    exact .mark h1 q1 q2 h4 ih
  | call hb h _ ih => exact .call hb (h.mono hk.le) ih

/-! ### code -/

def loopA (rec : RecC) (c : Code) : Nat → Fr → AH → Option (AExit × Fr × AH)
  | 0, _, _ => none
  | n + 1, f, h => match rec c f h with
    | some (.normal, f1, h1) => loopA rec c n f1 h1
    | r => r
def scopeA (rec : RecC) (body : Code) : Nat → Code → Fr → AH → Option (AExit × Fr × AH)
  | 0, _, _, _ => none
  | n + 1, cur, f, h => match rec cur f h with
    | some (.goto l, f1, h1) => match findLabel body l with
      | some rest => scopeA rec body n rest f1 h1
      | none => some (.goto l, f1, h1)
    | r => r
def rounds : Nat := 1000000
/-- A function that is ranged over and comes to an end without a round. -/
def rangeA (P : Program) (gl : Nat) (recF : RecF) (g : Operand) (f : Fr) (h : AH) : Option AH :=
  cond (operandOk gl g)
    (match f.eval g with
      | .func (.func gf) ⟨first⟩ ⟨captured⟩ => cond (hasBody P gf)
          (match recF gf (first ++ [.func (.yield 0) ⟨[]⟩ ⟨[]⟩] ++ captured) h with
            | some (.ret _, h1) => some h1
            | _ => none) none
      | _ => none) none
def deferA (P : Program) (ρ : Operand → Value) (c : Call) : Option Dfr :=
  match c.callee with
  | .value x => match ρ x with
    | .func (.func g) ⟨first⟩ ⟨captured⟩ => cond (hasBody P g) (some (.call g (first ++ c.args.toList.map ρ ++ captured))) none
    | _ => none
  | _ => none
/-- What may end in a panic, or defers. -/
def actA (P : Program) (recF : RecF) (o : Oper) (f : Fr) (h : AH) : Option (AExit × Fr × AH) :=
  match o.op with
  | .defer c => match deferA P f.eval c with
    | some d => some (.normal, ({ f with ds := d :: f.ds } : Fr).put o.dst undef, h)
    | none => none
  | .panic x => match f.eval x with
    | .iface t v => some (.panic (.iface t v), f, h)
    | _ => none
  | .call c => match c.callee with
    | .builtin .panic => match c.args.toList.map f.eval with
      | [.iface t v] => some (.panic (.iface t v), f, h)
      | _ => none
    | _ => match calleeA P f.eval c with
      | some (g, args) => match recF g args h with
        | some (.pan v, h1) => some (.panic v, f, h1)
        | _ => none
      | none => none
  | _ => none
def oneA (P : Program) (gl : Nat) (recF : RecF) (ev : OpEv) (o : Oper) (f : Fr) (h : AH) : Option (AExit × Fr × AH) :=
  match ev f o h with
  | some (v, h1) => some (.normal, f.put o.dst v, h1)
  | none => cond (o.op.operands.toList.all (operandOk gl)) (actA P recF o f h) none
def runA (P : Program) (gl : Nat) (recF : RecF) (ev : OpEv) (ops : Array Oper) : List Nat → Fr → AH → Option (AExit × Fr × AH)
  | [], f, h => some (.normal, f, h)
  | i :: l, f, h => match ops[i]? with
    | none => runA P gl recF ev ops l f h
    | some o => cond (Region.wanted o (yieldedA ops f))
      (match oneA P gl recF ev o f h with
        | some (.normal, f1, h1) => runA P gl recF ev ops l f1 h1
        | r => r)
      (runA P gl recF ev ops l (f.put o.dst undef) h)
def stepC (P : Program) (gl : Nat) (ev : OpEv) (recF : RecF) (rec : RecC) : RecC
  | .skip, f, h => some (.normal, f, h)
  | .label _, f, h => some (.normal, f, h)
  | .seq a b, f, h => match rec a f h with
    | some (.normal, f1, h1) => rec b f1 h1
    | r => r
  | .cond c x y, f, h => cond (operandOk gl c) (match f.eval c with
      | .bool true => rec x f h
      | .bool false => rec y f h
      | _ => none) none
  | .block id c, f, h => match rec c f h with
    | some (.exit id', f1, h1) => some (cond (Nat.beq id' id) .normal (.exit id'), f1, h1)
    | r => r
  | .loop c, f, h => loopA rec c rounds f h
  | .exit id, f, h => some (.exit id, f, h)
  | .goto l, f, h => some (.goto l, f, h)
  | .ret, f, h => some (.ret, f, h)
  | .scope body, f, h => scopeA rec body rounds body f h
  | .region _ ops draw, f, h => cond draw
      (match region ev ops true f h with
        | some (f1, h1) => some (.normal, { t := f1.t, n := f1.n, ds := f.ds }, h1)
        | none => none)
      (runA P gl recF ev ops (List.range ops.size) f h)
  | .rangeFunc g _ _ _, f, h => match rangeA P gl recF g f h with
    | some h1 => some (.normal, { f with ds := .mark :: f.ds }, h1)
    | none => none
  | .refuse _, _, _ => none

def ofArgs : List Value → Nat → T Value → T Value
  | [], _, t => t
  | v :: l, i, t => ofArgs l (i + 1) (t.set 24 i (some v))
def resultsF (get : Nat → Value) (fn : Func) : Sem Value := do
  let vs ← fn.results.mapM fun
    | .tmp t => pure (get t)
    | .cell a t => do loadVar t (← asAddr (get a))
  pure (if h : vs.size = 1 then vs[0] else .tuple vs)
def settleA : AM → AM
  | .pan _ true => .ret
  | m => m
/-- A function's way out: its deferred calls, then its results. -/
def leaveA (P : Program) (recD : RecD) (fn : Func) (get : Nat → Value) : List Dfr → AM → AH → Option (AEnd × AH)
  | [], .ret, h => match arun P (resultsF get fn) h with
    | some (v, h1) => some (.ret v, h1)
    | none => none
  | [], .pan v false, h => some (.pan v, h)
  | [], .pan _ true, _ => none
  | .mark :: ds, m, h => leaveA P recD fn get ds m h
  | .call g args :: ds, m, h => match recD g args m h with
    | some (m', h1) => leaveA P recD fn get ds (settleA m') h1
    | none => none
def stepF (P : Program) (rec : RecC) (recD : RecD) : RecF := fun g args h =>
  match P.funcs[g]? with
  | none => none
  | some fn => match fn.body with
    | none => none
    | some c =>
      cond (small (args.length + (fn.ntmps - args.length)))
        (match rec c { t := ofArgs args 0 .nil, n := args.length + (fn.ntmps - args.length) } h with
          | some (.normal, f', h1) | some (.ret, f', h1) => leaveA P recD fn f'.get f'.ds .ret h1
          | some (.panic v, f', h1) => leaveA P recD fn f'.get f'.ds (.pan v false) h1
          | _ => none) none

/-! ### a deferred function's own code: it may recover -/

def isRecover (o : Oper) : Bool := match o.op with
  | .call c => match c.callee with
    | .builtin .recover => true
    | _ => false
  | _ => false
def runS (P : Program) (gl : Nat) (recF : RecF) (ev : OpEv) (ops : Array Oper) : List Nat → Fr → AM → AH → Option (AExit × Fr × AM × AH)
  | [], f, m, h => some (.normal, f, m, h)
  | i :: l, f, m, h => match ops[i]? with
    | none => runS P gl recF ev ops l f m h
    | some o => cond (Region.wanted o (yieldedA ops f))
      (cond (isRecover o)
        (match m with
          | .pan v false => runS P gl recF ev ops l (f.put o.dst v) (.pan v true) h
          | m => runS P gl recF ev ops l (f.put o.dst .nilIface) m h)
        (match oneA P gl recF ev o f h with
          | some (.normal, f1, h1) => runS P gl recF ev ops l f1 m h1
          | some (x, f1, h1) => some (x, f1, m, h1)
          | none => none))
      (runS P gl recF ev ops l (f.put o.dst undef) m h)
def stepS (P : Program) (gl : Nat) (ev : OpEv) (recF : RecF) (rec : RecC) (recS : RecS) : RecS
  | .seq a b, f, m, h => match recS a f m h with
    | some (.normal, f1, m1, h1) => recS b f1 m1 h1
    | r => r
  | .cond c x y, f, m, h => cond (operandOk gl c) (match f.eval c with
      | .bool true => recS x f m h
      | .bool false => recS y f m h
      | _ => none) none
  | .block id c, f, m, h => match recS c f m h with
    | some (.exit id', f1, m1, h1) => some (cond (Nat.beq id' id) .normal (.exit id'), f1, m1, h1)
    | r => r
  | .region id ops draw, f, m, h => cond draw
      (match rec (.region id ops draw) f h with
        | some (x, f1, h1) => some (x, f1, m, h1)
        | none => none)
      (runS P gl recF ev ops (List.range ops.size) f m h)
  | c, f, m, h => match rec c f h with
    | some (x, f1, h1) => some (x, f1, m, h1)
    | none => none
def stepD (P : Program) (recS : RecS) : RecD := fun g args m h =>
  match P.funcs[g]? with
  | none => none
  | some fn => match fn.body with
    | none => none
    | some c =>
      cond (small (args.length + (fn.ntmps - args.length)))
        (match recS c { t := ofArgs args 0 .nil, n := args.length + (fn.ntmps - args.length) } m h with
          | some (.normal, f', m', h1) | some (.ret, f', m', h1) => match f'.ds, arun P (resultsF f'.get fn) h1 with
            | [], some (_, h2) => some (m', h2)
            | _, _ => none
          | _ => none) none

/-! ### what is claimed of them -/

def CodeSound (P : Program) (gl : Nat) (rec : RecC) : Prop :=
  ∀ c f h ex f' h', rec c f h = some (ex, f', h') → WF h → small f.n = true → (Ext h h' ∧ WF h' ∧ f'.n = f.n) ∧
    ∀ (κ : K) (G : Nat → Option AObj) (a : Act) (w : World) (n0 : Nat) (Q : Exit → Act → World → Prop), KG gl κ → Rel P κ G w → FrR κ f a → DfR P κ w n0 f.ds a.defers → n0 ≤ w.heap.size → Agree h h' G → Fresh h h' κ G →
      (∀ κ' ex' a' w', ExR κ' ex ex' → Rel P κ' (merge h h' G) w' → FrR κ' f' a' → DfR P κ' w' n0 f'.ds a'.defers → KX h h' κ κ' w w' → Q ex' a' w') → c.wp P Q a w
def CallSound (P : Program) (gl : Nat) (rec : RecF) : Prop :=
  ∀ g args h en h', rec g args h = some (en, h') → WF h → (Ext h h' ∧ WF h') ∧
    ∀ (κ : K) (G : Nat → Option AObj) (args' : Array Value) (w : World), KG gl κ → Rel P κ G w → VL κ args args'.toList → Agree h h' G → Fresh h h' κ G →
      Calls P g args' w fun e w' => ∃ κ', EndR κ' en e ∧ Rel P κ' (merge h h' G) w' ∧ KX h h' κ κ' w w'
def SoundS (P : Program) (gl : Nat) (rec : RecS) : Prop :=
  ∀ c f m h ex f' m' h', rec c f m h = some (ex, f', m', h') → WF h → small f.n = true → (Ext h h' ∧ WF h' ∧ f'.n = f.n) ∧
    ∀ (κ : K) (G : Nat → Option AObj) (a : Act) (u : FrameMode) (c0 : Frame) (cs : List Frame) (w : World) (n0 : Nat) (Q : Exit → Act → List Frame → World → Prop), KG gl κ → Rel P κ G w → FrR κ f a → AMR κ m u → DfR P κ w n0 f.ds a.defers → n0 ≤ w.heap.size →
      Agree h h' G → Fresh h h' κ G →
      (∀ κ' ex' a' u' w', ExR κ' ex ex' → Rel P κ' (merge h h' G) w' → FrR κ' f' a' → AMR κ' m' u' → DfR P κ' w' n0 f'.ds a'.defers → KX h h' κ κ' w w' → Q ex' a' ({ c0 with mode := u' } :: cs) w') → c.wpS P Q a ({ c0 with mode := u } :: cs) w
def DeferSound (P : Program) (gl : Nat) (rec : RecD) : Prop :=
  ∀ g args m h m' h', rec g args m h = some (m', h') → WF h → (Ext h h' ∧ WF h') ∧
    ∀ (κ : K) (G : Nat → Option AObj) (args' : Array Value) (u : FrameMode) (w : World), KG gl κ → Rel P κ G w → VL κ args args'.toList → AMR κ m u → Agree h h' G → Fresh h h' κ G →
      CallsD P g args' u w fun e u' w' => ∃ κ' v, e = .returned v ∧ AMR κ' m' u' ∧ Rel P κ' (merge h h' G) w' ∧ KX h h' κ κ' w w'
end Go.Ev
