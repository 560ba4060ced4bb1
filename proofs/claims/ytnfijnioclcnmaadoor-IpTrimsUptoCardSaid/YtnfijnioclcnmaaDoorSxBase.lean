/- Runs with hints: what an operation over numbers that are not known comes to is told ahead; what must hold for it is gathered. Holds for every program. -/
import Derived.Test.YtnfijnioclcnmaaDoorEvTop
namespace Go.Ev
open Go Go.RowKit

/-! ### single calls, single pieces of code -/

def CTup (P : Program) (gl : Nat) (g : FuncId) (args : List Value) (h : AH) (en : AEnd) (h' : AH) : Prop := WF h → (Ext h h' ∧ WF h') ∧
  ∀ (κ : K) (G : Nat → Option AObj) (args' : Array Value) (w : World), KG gl κ → Rel P κ G w → VL κ args args'.toList → Agree h h' G → Fresh h h' κ G →
    Calls P g args' w fun e w' => ∃ κ', EndR κ' en e ∧ Rel P κ' (merge h h' G) w' ∧ KX h h' κ κ' w w'
def LTup (P : Program) (gl : Nat) (c : Code) (f : Fr) (h : AH) (ex : AExit) (f' : Fr) (h' : AH) : Prop := WF h → small f.n = true → (Ext h h' ∧ WF h' ∧ f'.n = f.n) ∧
  ∀ (κ : K) (G : Nat → Option AObj) (a : Act) (w : World) (n0 : Nat) (Q : Exit → Act → World → Prop), KG gl κ → Rel P κ G w → FrR κ f a → DfR P κ w n0 f.ds a.defers → n0 ≤ w.heap.size → Agree h h' G → Fresh h h' κ G →
    (∀ κ' ex' a' w', ExR κ' ex ex' → Rel P κ' (merge h h' G) w' → FrR κ' f' a' → DfR P κ' w' n0 f'.ds a'.defers → KX h h' κ κ' w w' → Q ex' a' w') → c.wp P Q a w
theorem CallSound.tup {P : Program} {gl : Nat} {F : RecF} (h : CallSound P gl F) {g : FuncId} {args : List Value} {h0 : AH} {en : AEnd} {h1 : AH} (e : F g args h0 = some (en, h1)) : CTup P gl g args h0 en h1 := fun wf => h g args h0 en h1 e wf
theorem CodeSound.tup {P : Program} {gl : Nat} {C : RecC} (h : CodeSound P gl C) {c : Code} {f : Fr} {h0 : AH} {ex : AExit} {f1 : Fr} {h1 : AH} (e : C c f h0 = some (ex, f1, h1)) : LTup P gl c f h0 ex f1 h1 := fun wf hs => h c f h0 ex f1 h1 e wf hs

/-! ### operations -/

abbrev sp0 (P : Program) (gl : Nat) : OpEv := checked gl (special P)
def noF : RecF := fun _ _ _ => none
/-- The operations, special ones first. -/
abbrev evR (P : Program) (gl : Nat) (F : RecF) : OpEv := orEv (sp0 P gl) (aop P gl F)
def isCall (P : Program) (f : Fr) (o : Oper) : Option (FuncId × List Value) :=
  match o.op with
  | .call c => match c.callee with
    | .builtin _ => none
    | _ => calleeA P f.eval c
  | _ => none
theorem aop_noCall {P : Program} {gl : Nat} {f : Fr} {o : Oper} (h : isCall P f o = none) (F : RecF) (hp : AH) : aop P gl F f o hp = aop P gl noF f o hp := by
  unfold isCall at h
  unfold aop
  cases o.op.operands.toList.all (operandOk gl) with
  | false => rfl
  | true =>
    simp only [cond_true]
    split
    · rename_i c ho
      rw [ho] at h
      simp only [] at h
      split
      · rfl
      · rfl
      · rename_i hb1 hb2
        have hc : calleeA P f.eval c = none := by
          split at h
          · rename_i b hb; exact absurd hb (hb2 b)
          · exact h
        rw [hc]
    · rfl
    · rfl
theorem aop_call {P : Program} {gl : Nat} {f : Fr} {o : Oper} {g : FuncId} {args : List Value} (h : isCall P f o = some (g, args)) (F : RecF) (hp : AH) :
    aop P gl F f o hp = cond (o.op.operands.toList.all (operandOk gl)) (match F g args hp with
      | some (.ret v, h1) => some (v, h1)
      | _ => none) none := by
  unfold isCall at h
  unfold aop
  split at h
  · rename_i c ho
    split at h
    · cases h
    · rename_i hb
      rw [ho]
      simp only []
      congr 1
      split
      · rename_i hc; exact absurd hc (hb _)
      · rename_i b hc; exact absurd hc (hb _)
      · rw [h]; rfl
  · cases h

def All (ps : List Prop) : Prop := ∀ p ∈ ps, p
/-- A way to reckon an operation, under what it asks. -/
structure OpRule where
  run : Program → Nat → Fr → Oper → AH → Option ((Value × AH) × List Prop)
  ok : ∀ P gl f o h r ps, isCall P f o = none → run P gl f o h = some (r, ps) → All ps → evR P gl noF f o h = some r
inductive OpHint where
  | bool (t : Bool)
  | int (x : Int)
  | op (c : OpRule)
/-- What came out, with what was told of it put in its place. -/
def refineH (x : Option OpHint) (r : (Value × AH) × List Prop) : Option ((Value × AH) × List Prop) :=
  match x with
  | none => some r
  | some (.bool t) => match r with
    | ((.bool b, h1), ps) => some ((.bool t, h1), (b = t) :: ps)
    | _ => none
  | some (.int x) => match r with
    | ((.int k n, h1), ps) => some ((.int k x, h1), (n = x) :: ps)
    | _ => none
  | some (.op _) => none

/-! ### hints -/

structure Hints where
  op : FuncId → Nat → Option OpHint
  call : FuncId → List Value → AH → Option ((AEnd × AH) × List Prop)
  block : FuncId → Nat → Code → Fr → AH → Option ((AExit × Fr × AH) × List Prop)
def Hints.none : Hints := ⟨fun _ _ => .none, fun _ _ _ => .none, fun _ _ _ _ _ => .none⟩
abbrev PO (α : Type) := Option (α × List Prop)
abbrev RecCH := Code → Fr → AH → PO (AExit × Fr × AH)
abbrev RecFH := FuncId → List Value → AH → PO (AEnd × AH)
/-- A store has no slot of its own: it is told by its place's, and a million more. -/
def hintAt (H : Hints) (cur : FuncId) (o : Oper) : Option OpHint := match o.dst with
  | some s => H.op cur s
  | none => match o.op with
    | .store _ (.tmp s) _ => H.op cur (1000000 + s)
    | _ => none
section
variable (P : Program) (gl : Nat) (H : Hints) (cur : FuncId) (recF : RecFH)
/-- An operation as it is reckoned, ahead of what is told of it. -/
def baseH (f : Fr) (o : Oper) (h : AH) : PO (Value × AH) :=
  match isCall P f o with
  | some (g, args) => match sp0 P gl f o h with
    | some r => some (r, [])
    | none => cond (o.op.operands.toList.all (operandOk gl)) (match recF g args h with
      | some ((.ret v, h1), ps) => some ((v, h1), ps)
      | _ => none) none
  | none => match evR P gl noF f o h with
    | some r => some (r, [])
    | none => none
def evH (f : Fr) (o : Oper) (h : AH) : PO (Value × AH) :=
  match hintAt H cur o with
  | some (.op c) => match isCall P f o with
    | some _ => none
    | none => c.run P gl f o h
  | x => match baseH P gl recF f o h with
    | some r => refineH x r
    | none => none
def oneH (f : Fr) (o : Oper) (h : AH) : PO (AExit × Fr × AH) :=
  match evH P gl H cur recF f o h with
  | some ((v, h1), ps) => some ((.normal, f.put o.dst v, h1), ps)
  | none => cond (o.op.operands.toList.all (operandOk gl)) (match isCall P f o with
    | some (g, args) => match sp0 P gl f o h with
      | some _ => none
      | none => match recF g args h with
        | some ((.pan v, h1), ps) => some ((.panic v, f, h1), ps)
        | _ => none
    | none => match hintAt H cur o, evR P gl noF f o h, actA P noF o f h with
      | none, none, some r => some (r, [])
      | _, _, _ => none) none
def runH (ops : Array Oper) : List Nat → Fr → AH → PO (AExit × Fr × AH)
  | [], f, h => some ((.normal, f, h), [])
  | i :: l, f, h => match ops[i]? with
    | none => runH ops l f h
    | some o => cond (Region.wanted o (yieldedA ops f))
      (match oneH P gl H cur recF f o h with
        | some ((.normal, f1, h1), ps) => match runH ops l f1 h1 with
          | some (r, qs) => some (r, ps ++ qs)
          | none => none
        | r => r)
      (runH ops l (f.put o.dst undef) h)
def stepOpH (ops : Array Oper) (i : Nat) (f : Fr) (h : AH) : PO (Fr × AH) :=
  match ops[i]? with
  | none => some ((f, h), [])
  | some o =>
    cond (Region.wanted o (yieldedA ops f))
      (match evH P gl H cur recF f o h with
        | some ((v, h1), ps) => some ((f.put o.dst v, h1), ps)
        | none => none)
      (some ((f.put o.dst undef, h), []))
def drawOpsH (ops : Array Oper) : Nat → Nat → Fr → AH → PO (Fr × AH × List (Nat × Nat))
  | 0, _, f, h => some ((f, h, []), [])
  | k + 1, i, f, h =>
    match stepOpH P gl H cur recF ops i f (zeroB h) with
    | some ((f1, h1), ps) => match drawOpsH ops k (i + 1) f1 (orB h h1) with
      | some ((f2, h2, l), qs) => some ((f2, h2, footOf h h1 :: l), ps ++ qs)
      | none => none
    | none => none
def regionH (ops : Array Oper) (f : Fr) (h : AH) : PO (AExit × Fr × AH) :=
  match regionPlan ops with
  | some pl => match drawOpsH P gl H cur recF ops ops.size 0 f h with
    | some ((f', h', l), ps) => cond (drawOk pl l && Region.noSelect ops) (some ((.normal, { t := f'.t, n := f'.n, ds := f.ds }, h'), ps)) none
    | none => none
  | none => none
variable (rec : RecCH)
def loopH (c : Code) : Nat → Fr → AH → PO (AExit × Fr × AH)
  | 0, _, _ => none
  | n + 1, f, h => match rec c f h with
    | some ((.normal, f1, h1), ps) => match loopH c n f1 h1 with
      | some (r, qs) => some (r, ps ++ qs)
      | none => none
    | r => r
def scopeH (body : Code) : Nat → Code → Fr → AH → PO (AExit × Fr × AH)
  | 0, _, _, _ => none
  | n + 1, c, f, h => match rec c f h with
    | some ((.goto l, f1, h1), ps) => match findLabel body l with
      | some rest => match scopeH body n rest f1 h1 with
        | some (r, qs) => some (r, ps ++ qs)
        | none => none
      | none => some ((.goto l, f1, h1), ps)
    | r => r
def stepCH : RecCH
  | .skip, f, h => some ((.normal, f, h), [])
  | .label _, f, h => some ((.normal, f, h), [])
  | .seq a b, f, h => match rec a f h with
    | some ((.normal, f1, h1), ps) => match rec b f1 h1 with
      | some (r, qs) => some (r, ps ++ qs)
      | none => none
    | r => r
  | .cond c x y, f, h => cond (operandOk gl c) (match f.eval c with
      | .bool true => rec x f h
      | .bool false => rec y f h
      | _ => none) none
  | .block id c, f, h => match H.block cur id c f h with
    | some r => some r
    | none => match rec c f h with
      | some ((.exit id', f1, h1), ps) => some ((cond (Nat.beq id' id) .normal (.exit id'), f1, h1), ps)
      | r => r
  | .loop c, f, h => loopH rec c rounds f h
  | .exit id, f, h => some ((.exit id, f, h), [])
  | .goto l, f, h => some ((.goto l, f, h), [])
  | .ret, f, h => some ((.ret, f, h), [])
  | .scope body, f, h => scopeH rec body rounds body f h
  | .region _ ops draw, f, h => cond draw (regionH P gl H cur recF ops f h) (runH P gl H cur recF ops (List.range ops.size) f h)
  | .rangeFunc _ _ _ _, _, _ => none
  | .refuse _, _, _ => none
def stepFH (rec : FuncId → RecCH) (recD : RecD) : RecFH := fun g args h =>
  match H.call g args h with
  | some r => some r
  | none => match P.funcs[g]? with
    | none => none
    | some fn => match fn.body with
      | none => none
      | some c =>
        cond (small (args.length + (fn.ntmps - args.length)))
          (match rec g c { t := ofArgs args 0 .nil, n := args.length + (fn.ntmps - args.length) } h with
            | some ((.normal, f', h1), ps) | some ((.ret, f', h1), ps) => match leaveA P recD fn f'.get f'.ds .ret h1 with
              | some r => some (r, ps)
              | none => none
            | some ((.panic v, f', h1), ps) => match leaveA P recD fn f'.get f'.ds (.pan v false) h1 with
              | some r => some (r, ps)
              | none => none
            | _ => none) none
end
/-- The run with hints, so many steps deep. -/
noncomputable def runHR (P : Program) (gl : Nat) (H : Hints) (n : Nat) : (FuncId → RecCH) × RecFH :=
  Nat.rec (fun _ _ _ _ => none, fun _ _ _ => none)
    (fun m r => (fun cur => stepCH P gl H cur r.2 (r.1 cur), stepFH P H r.1 (run P gl (sp0 P gl) m).2.2.2)) n
end Go.Ev
