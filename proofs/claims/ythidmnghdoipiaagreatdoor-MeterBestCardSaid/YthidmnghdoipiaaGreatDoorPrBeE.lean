/- Meter: the first and the last one: the reference's. -/
import Derived.Test.YthidmnghdoipiaaGreatDoorPrBeD
namespace Go.Proofs.YthidmnghdoipiaaGreatDoor
open Go Go.RowKit Go.Ev
def RF : Sums := [(40, refFn)]
theorem RF_ok : Sums.Ok Tryz.prog 0 RF := .cons ref_tup .nil
noncomputable abbrev rfH (ops : OpHints) : Hints := rowHints (P := Tryz.prog) ops [(40, refFn)] [] []
theorem rfH_ok (ops : OpHints) : (rfH ops).Ok Tryz.prog 0 := rowHints_ok RF_ok .nil
noncomputable def bodyR : Code := (Tryz.f16.body).getD .skip
noncomputable def preR : Code := match splitSeq 2 bodyR with
  | some (p, _) => p
  | none => .skip
noncomputable def restR : Code := match splitSeq 2 bodyR with
  | some (_, r) => r
  | none => .skip
noncomputable def loopR : Code := match restR with
  | .seq (.seq _ (.block _ (.loop b))) _ => b
  | _ => .skip
noncomputable def initR : Code := match restR with
  | .seq (.seq a _) _ => a
  | _ => .skip
noncomputable def tailR : Code := match restR with
  | .seq _ t => t
  | _ => .skip
theorem splitR : splitSeq 2 bodyR = some (preR, restR) := by kernel_rfl
theorem restR_eq : restR = .seq (.seq initR (.block 0 (.loop loopR))) tailR := by kernel_rfl
theorem f16_at : Tryz.prog.funcs[16]? = some Tryz.f16 := by kernel_rfl
theorem f16_body : Tryz.f16.body = some bodyR := by kernel_rfl
abbrev sgnV (w : Bool) : Int := bif w then 1 else -1
abbrev liveR (w : Bool) (n c : Nat) (x : Nat) (sm : Bool) (i : Int) : List (Nat × Value) := [(0, pSl n c), (1, .int .i64 (sgnV w)), (6, fV x), (7, .bool sm), (8, .int .i64 i)]
abbrev slR : List Nat := [0, 1, 6, 7, 8]
abbrev vsR (w : Bool) (n c : Nat) (x : Nat) (sm : Bool) (i : Int) : List Value := [pSl n c, .int .i64 (sgnV w), fV x, .bool sm, .int .i64 i]
theorem r_pre (cs : List Value) (w : Bool) (n c : Nat) (f : Fr) :
    roundOutH [0, 1, 6, 7] [0] ((runHR Tryz.prog 0 (rfH []) 100).1 16 preR (canonF 45 [(0, pSl n c), (1, .int .i64 (sgnV w))] f) (hpOf [viewF cs])) =
    some (.normal, [pSl n c, .int .i64 (sgnV w), fV qnan, .bool false], 45, (1, 0, 0), [viewF cs], []) := by kernel_rfl
theorem r_init (cs : List Value) (w : Bool) (n c : Nat) (f : Fr) :
    roundOutH slR [0] ((runHR Tryz.prog 0 (rfH []) 100).1 16 initR (canonF 45 [(0, pSl n c), (1, .int .i64 (sgnV w)), (6, fV qnan), (7, .bool false)] f) (hpOf [viewF cs])) =
    some (.normal, vsR w n c qnan false 0, 45, (1, 0, 0), [viewF cs], []) := by kernel_rfl
theorem r_end (cs : List Value) (w sm : Bool) (n c x : Nat) (i : Int) (f : Fr) :
    roundOutH slR [0] ((runHR Tryz.prog 0 (rfH [(16, 13, .bool false)]) 100).1 16 loopR (canonF 45 (liveR w n c x sm i) f) (hpOf [viewF cs])) =
    some (.exit 0, vsR w n c x sm i, 45, (1, 0, 0), [viewF cs], [decide (i < (n : Int)) = false]) := by kernel_rfl
abbrev ldF (cs : List Value) : OpHint := .op (ldRule fun o => .float .f64 (fltAt cs o))
abbrev rHints (cs : List Value) (i : Int) (nn e : Bool) : OpHints := [(16, 13, .bool true), (16, 18, .op ixRule), (16, 19, ldF cs), (16, 22, .op ixRule), (16, 23, ldF cs), (16, 24, .bool nn), (16, 31, .op ixRule), (16, 32, ldF cs), (16, 36, .bool e), (16, 41, .op ixRule), (16, 42, ldF cs), (16, 15, .int (i + 1))]
def inP (cs : List Value) (n : Nat) (i : Int) : List Prop := [0 ≤ i ∧ i < (n : Int), nth cs (at1 i) = some (.float .f64 (fltAt cs (at1 i)))]
abbrev hitB (nn sm e : Bool) : Bool := nn && (!sm || e)
def rP (cs : List Value) (w : Bool) (n x : Nat) (sm : Bool) (i : Int) (nn e : Bool) : List Prop :=
  [decide (i < (n : Int)) = true] ++ (inP cs n i ++ (inP cs n i ++ ([(cmpF (fltAt cs (at1 i)) (fltAt cs (at1 i)) == some .eq) = nn] ++
    ((bif nn && sm then inP cs n i ++ [(refF (fltAt cs (at1 i)) x == sgnV w) = e] else []) ++ ((bif hitB nn sm e then inP cs n i else []) ++ [IntKind.i64.wrap (i + 1) = i + 1])))))
theorem r_round (cs : List Value) (w sm nn e : Bool) (n c x : Nat) (i : Int) (f : Fr) :
    roundOutH slR [0] ((runHR Tryz.prog 0 (rfH (rHints cs i nn e)) 100).1 16 loopR (canonF 45 (liveR w n c x sm i) f) (hpOf [viewF cs])) =
    some (.normal, vsR w n c (bif hitB nn sm e then fltAt cs (at1 i) else x) (sm || hitB nn sm e) (i + 1), 45, (1, 1, 0), [viewF cs], rP cs w n x sm i nn e) := by
  cases nn
  · cases sm <;> kernel_rfl
  · cases sm
    · kernel_rfl
    · cases e <;> cases w <;> kernel_rfl
theorem r_tail (cs : List Value) (w sm : Bool) (n c x : Nat) (i : Int) (f : Fr) :
    roundOutH [4, 5] [0] ((runHR Tryz.prog 0 (rfH []) 100).1 16 tailR (canonF 45 (liveR w n c x sm i) f) (hpOf [viewF cs])) =
    some (.ret, [fV x, .bool sm], 45, (1, 0, 0), [viewF cs], []) := by kernel_rfl
theorem r_nil (w : Bool) : callOut 0 ((runHR Tryz.prog 0 (rfH []) 100).2 16 [nilS, .int .i64 (sgnV w)] (Go.Ev.bare 0)) = some (.tuple #[fV qnan, .bool false], []) := by kernel_rfl
end Go.Proofs.YthidmnghdoipiaaGreatDoor
