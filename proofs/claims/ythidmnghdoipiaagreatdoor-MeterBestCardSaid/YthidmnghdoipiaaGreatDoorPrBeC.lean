/- Meter: the first and the last one: the first of a row, by an order. -/
import Derived.Test.YthidmnghdoipiaaGreatDoorPrBeB
import Derived.Test.YthidmnghdoipiaaGreatDoorPrBeO
namespace Go.Proofs.YthidmnghdoipiaaGreatDoor
open Go Go.RowKit Go.Ev
def OR : Sums := [(19, orderFn)]
theorem OR_ok : Sums.Ok Tryz.prog 0 OR := .cons order_tup .nil
noncomputable abbrev orH (ops : OpHints) : Hints := rowHints (P := Tryz.prog) ops [(19, orderFn)] [] []
theorem orH_ok (ops : OpHints) : (orH ops).Ok Tryz.prog 0 := rowHints_ok OR_ok .nil
noncomputable def bodyF : Code := (Tryz.f37.body).getD .skip
noncomputable def preF : Code := match splitSeq 1 bodyF with
  | some (p, _) => p
  | none => .skip
noncomputable def restF : Code := match splitSeq 1 bodyF with
  | some (_, r) => r
  | none => .skip
noncomputable def loopF : Code := match restF with
  | .seq (.seq _ (.block _ (.loop b))) _ => b
  | _ => .skip
noncomputable def initF : Code := match restF with
  | .seq (.seq a _) _ => a
  | _ => .skip
noncomputable def tailF : Code := match restF with
  | .seq _ t => t
  | _ => .skip
theorem splitF : splitSeq 1 bodyF = some (preF, restF) := by kernel_rfl
theorem restF_eq : restF = .seq (.seq initF (.block 0 (.loop loopF))) tailF := by kernel_rfl
theorem f37_at : Tryz.prog.funcs[37]? = some Tryz.f37 := by kernel_rfl
theorem f37_body : Tryz.f37.body = some bodyF := by kernel_rfl
abbrev fnV (w : Bool) : Value := .func (.func (bif w then 41 else 39)) #[] #[]
abbrev fV (x : Nat) : Value := .float .f64 x
abbrev liveF (w : Bool) (n c : Nat) (b : Nat) (i : Int) : List (Nat × Value) := [(0, pSl n c), (1, fnV w), (6, fV b), (9, pSl n c), (10, .int .i64 n), (11, .int .i64 i)]
abbrev slF : List Nat := [0, 1, 6, 9, 10, 11]
abbrev vsF (w : Bool) (n c : Nat) (b : Nat) (i : Int) : List Value := [pSl n c, fnV w, fV b, pSl n c, .int .i64 n, .int .i64 i]
theorem f_pre (cs : List Value) (w : Bool) (n c : Nat) (f : Fr) :
    roundOutH [0, 1, 6] [0] ((runHR Tryz.prog 0 (orH []) 100).1 37 preF (canonF 30 [(0, pSl n c), (1, fnV w)] f) (hpOf [viewF cs])) =
    some (.normal, [pSl n c, fnV w, fV 0], 30, (1, 0, 0), [viewF cs], []) := by kernel_rfl
theorem f_init (cs : List Value) (w : Bool) (n c : Nat) (f : Fr) :
    roundOutH slF [0] ((runHR Tryz.prog 0 (orH []) 100).1 37 initF (canonF 30 [(0, pSl n c), (1, fnV w), (6, fV 0)] f) (hpOf [viewF cs])) =
    some (.normal, vsF w n c 0 0, 30, (1, 0, 0), [viewF cs], []) := by kernel_rfl
theorem f_end (cs : List Value) (w : Bool) (n c b : Nat) (i : Int) (f : Fr) :
    roundOutH slF [0] ((runHR Tryz.prog 0 (orH [(37, 12, .bool false)]) 100).1 37 loopF (canonF 30 (liveF w n c b i) f) (hpOf [viewF cs])) =
    some (.exit 0, vsF w n c b i, 30, (1, 0, 0), [viewF cs], [decide (i < (n : Int)) = false]) := by kernel_rfl
abbrev fHints (cs : List Value) (i : Int) (z l : Bool) : OpHints := [(37, 12, .bool true), (37, 14, .op ixRule), (37, 15, .op (ldRule fun o => .float .f64 (fltAt cs o))), (37, 17, .bool z), (39, 8, .bool l), (41, 8, .bool l), (37, 25, .int (i + 1))]
def aheadP (w : Bool) (x b : Nat) (l : Bool) : List Prop := [bif w then decide (ordF x b > 0) = l else decide (ordF x b < 0) = l]
def fP (cs : List Value) (w : Bool) (n b : Nat) (i : Int) (z l : Bool) : List Prop :=
  [decide (i < (n : Int)) = true, 0 ≤ i ∧ i < (n : Int), nth cs (at1 i) = some (.float .f64 (fltAt cs (at1 i))), (i == 0) = z] ++ ((bif z then [] else aheadP w (fltAt cs (at1 i)) b l) ++ [IntKind.i64.wrap (i + 1) = i + 1])
theorem f_round (cs : List Value) (w : Bool) (n c b : Nat) (i : Int) (z l : Bool) (f : Fr) :
    roundOutH slF [0] ((runHR Tryz.prog 0 (orH (fHints cs i z l)) 100).1 37 loopF (canonF 30 (liveF w n c b i) f) (hpOf [viewF cs])) =
    some (.normal, vsF w n c (bif z || l then fltAt cs (at1 i) else b) (i + 1), 30, (1, 1, 0), [viewF cs], fP cs w n b i z l) := by
  cases z
  · cases w <;> cases l <;> kernel_rfl
  · kernel_rfl
theorem f_tail (cs : List Value) (w p : Bool) (n c b : Nat) (i : Int) (f : Fr) :
    roundOutH [4, 5] [0] ((runHR Tryz.prog 0 (orH [(37, 29, .bool p)]) 100).1 37 tailF (canonF 30 (liveF w n c b i) f) (hpOf [viewF cs])) =
    some (.ret, [fV b, .bool p], 30, (1, 0, 0), [viewF cs], [decide ((n : Int) > 0) = p]) := by kernel_rfl
theorem f_nil (w : Bool) : callOut 0 ((runHR Tryz.prog 0 (orH []) 100).2 37 [nilS, fnV w] (Go.Ev.bare 0)) = some (.tuple #[fV 0, .bool false], []) := by kernel_rfl
theorem n_nil : callOut 0 ((runHR Tryz.prog 0 (orH []) 100).2 38 [nilS] (Go.Ev.bare 0)) = some (nilS, []) := by kernel_rfl
end Go.Proofs.YthidmnghdoipiaaGreatDoor
