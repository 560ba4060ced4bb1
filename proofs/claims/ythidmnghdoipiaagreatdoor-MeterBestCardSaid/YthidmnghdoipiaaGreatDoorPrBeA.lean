/- Meter: the first and the last one: the functions with loops, and their ways. -/
import Derived.Test.YthidmnghdoipiaaGreatDoorPrMpA
import Derived.Test.YthidmnghdoipiaaGreatDoorKit14
import Derived.Test.YthidmnghdoipiaaGreatDoorKit15
namespace Go.Proofs.YthidmnghdoipiaaGreatDoor
open Go Go.RowKit Go.Ev
noncomputable abbrev brH (ops : OpHints) : Hints := rowHints (P := Tryz.prog) ops [] [] []
theorem brH_ok (ops : OpHints) : (brH ops).Ok Tryz.prog 0 := rowHints_ok Sums.Ok.nil .nil
def fltAt (cs : List Value) (o : Nat) : Nat := match nth cs o with
  | some (.float .f64 x) => x
  | _ => 0
abbrev viewF (cs : List Value) : Option AObj := some (.cells cs 37 1 0 false false)
abbrev rowF (cs : List Value) : Option AObj := some (.cells cs 37 0 0 false false)
abbrev oneF' (v : Nat) : Option AObj := some (.cells [.float .f64 v] 37 0 0 true false)
abbrev pSl (n c : Nat) : Value := .slice (some ⟨0, 0, none⟩) n c
abbrev pK (k n c : Nat) : Value := .slice (some ⟨k, 0, none⟩) n c
abbrev nilS : Value := .slice none 0 0
abbrev at1 (i : Int) : Nat := 0 + i.toNat * 1

/-! ### numbers -/

noncomputable def bodyN : Code := (Tryz.f38.body).getD .skip
noncomputable def preN : Code := match splitSeq 1 bodyN with
  | some (p, _) => p
  | none => .skip
noncomputable def restN : Code := match splitSeq 1 bodyN with
  | some (_, r) => r
  | none => .skip
noncomputable def loopN : Code := match restN with
  | .seq (.seq _ (.block _ (.loop b))) _ => b
  | _ => .skip
noncomputable def initN : Code := match restN with
  | .seq (.seq a _) _ => a
  | _ => .skip
noncomputable def tailN : Code := match restN with
  | .seq _ t => t
  | _ => .skip
theorem splitN : splitSeq 1 bodyN = some (preN, restN) := by kernel_rfl
theorem restN_eq : restN = .seq (.seq initN (.block 0 (.loop loopN))) tailN := by kernel_rfl
theorem f38_at : Tryz.prog.funcs[38]? = some Tryz.f38 := by kernel_rfl
theorem f38_body : Tryz.f38.body = some bodyN := by kernel_rfl
abbrev liveN (n c : Nat) (out : Value) (i : Int) : List (Nat × Value) := [(3, out), (6, pSl n c), (7, .int .i64 n), (8, .int .i64 i)]
abbrev slN : List Nat := [3, 6, 7, 8]
abbrev vsN (n c : Nat) (out : Value) (i : Int) : List Value := [out, pSl n c, .int .i64 n, .int .i64 i]
theorem n_pre (cs : List Value) (n c : Nat) (f : Fr) :
    roundOutH [0, 3] [0] ((runHR Tryz.prog 0 (brH []) 100).1 38 preN (canonF 21 [(0, pSl n c)] f) (hpOf [viewF cs])) =
    some (.normal, [pSl n c, nilS], 21, (1, 0, 0), [viewF cs], []) := by kernel_rfl
theorem n_init (cs : List Value) (n c : Nat) (f : Fr) :
    roundOutH slN [0] ((runHR Tryz.prog 0 (brH []) 100).1 38 initN (canonF 21 [(0, pSl n c), (3, nilS)] f) (hpOf [viewF cs])) =
    some (.normal, vsN n c nilS 0, 21, (1, 0, 0), [viewF cs], []) := by kernel_rfl
abbrev nHints (cs : List Value) (i : Int) (nn : Bool) (ap : OpRule) : OpHints := [(38, 9, .bool true), (38, 10, .op ixRule), (38, 11, .op (ldRule fun o => .float .f64 (fltAt cs o))), (38, 14, .bool nn), (38, 18, .op ap), (38, 19, .int (i + 1))]
def nP (cs : List Value) (n : Nat) (i : Int) (nn : Bool) : List Prop :=
  [decide (i < (n : Int)) = true, 0 ≤ i ∧ i < (n : Int), nth cs (at1 i) = some (.float .f64 (fltAt cs (at1 i))), (cmpF (fltAt cs (at1 i)) (fltAt cs (at1 i)) == some .eq) = nn]
theorem n_end (cs : List Value) (n c : Nat) (i : Int) (f : Fr) :
    roundOutH slN [0] ((runHR Tryz.prog 0 (brH [(38, 9, .bool false)]) 100).1 38 loopN (canonF 21 (liveN n c nilS i) f) (hpOf [viewF cs])) =
    some (.exit 0, vsN n c nilS i, 21, (1, 0, 0), [viewF cs], [decide (i < (n : Int)) = false]) := by kernel_rfl
theorem n_end1 (cs d : List Value) (n c q : Nat) (i : Int) (f : Fr) :
    roundOutH slN [0, 1] ((runHR Tryz.prog 0 (brH [(38, 9, .bool false)]) 100).1 38 loopN (canonF 21 (liveN n c (pK 1 q q) i) f) (hpOf [viewF cs, rowF d])) =
    some (.exit 0, vsN n c (pK 1 q q) i, 21, (2, 0, 0), [viewF cs, rowF d], [decide (i < (n : Int)) = false]) := by kernel_rfl
theorem n_skip (cs : List Value) (n c : Nat) (i : Int) (f : Fr) :
    roundOutH slN [0] ((runHR Tryz.prog 0 (brH (nHints cs i false apNilRule)) 100).1 38 loopN (canonF 21 (liveN n c nilS i) f) (hpOf [viewF cs])) =
    some (.normal, vsN n c nilS (i + 1), 21, (1, 1, 0), [viewF cs], nP cs n i false ++ [IntKind.i64.wrap (i + 1) = i + 1]) := by kernel_rfl
theorem n_skip1 (cs d : List Value) (n c q : Nat) (i : Int) (f : Fr) :
    roundOutH slN [0, 1] ((runHR Tryz.prog 0 (brH (nHints cs i false apNilRule)) 100).1 38 loopN (canonF 21 (liveN n c (pK 1 q q) i) f) (hpOf [viewF cs, rowF d])) =
    some (.normal, vsN n c (pK 1 q q) (i + 1), 21, (2, 1, 0), [viewF cs, rowF d], nP cs n i false ++ [IntKind.i64.wrap (i + 1) = i + 1]) := by kernel_rfl
def apNilP (v : Nat) : List Prop := [0 < 1, 1 ≤ 140737488355328, 1 * 8 ≤ 140737488355328, 0 + 1 ≤ [Value.float .f64 v].length, (takeL [Value.float .f64 v] 0 1).all oneCell = true]
def apP (d : List Value) (q : Nat) (v : Nat) : List Prop := [0 < q, 0 < 1, q < q + 1, q + 1 ≤ 140737488355328, (q + 1) * 8 ≤ 140737488355328, 0 + q ≤ d.length, 0 + 1 ≤ [Value.float .f64 v].length, (takeL d 0 q).all oneCell = true, (takeL [Value.float .f64 v] 0 1).all oneCell = true]
theorem n_first (cs : List Value) (n c : Nat) (i : Int) (f : Fr) :
    roundOutH slN [0, 1, 2] ((runHR Tryz.prog 0 (brH (nHints cs i true apNilWRule)) 100).1 38 loopN (canonF 21 (liveN n c nilS i) f) (hpOf [viewF cs])) =
    some (.normal, vsN n c (pK 2 1 1) (i + 1), 21, (3, 3, 0), [viewF cs, oneF' (fltAt cs (at1 i)), rowF (takeL [Value.float .f64 (fltAt cs (at1 i))] 0 1)], nP cs n i true ++ (apNilP (fltAt cs (at1 i)) ++ [IntKind.i64.wrap (i + 1) = i + 1])) := by kernel_rfl
theorem n_next (cs d : List Value) (n c q : Nat) (i : Int) (f : Fr) :
    roundOutH slN [0, 1, 2, 3] ((runHR Tryz.prog 0 (brH (nHints cs i true apWRule)) 100).1 38 loopN (canonF 21 (liveN n c (pK 1 q q) i) f) (hpOf [viewF cs, rowF d])) =
    some (.normal, vsN n c (pK 3 (q + 1) (q + 1)) (i + 1), 21, (4, 7, 2), [viewF cs, none, oneF' (fltAt cs (at1 i)), rowF (takeL d 0 q ++ takeL [Value.float .f64 (fltAt cs (at1 i))] 0 1)], nP cs n i true ++ (apP d q (fltAt cs (at1 i)) ++ [IntKind.i64.wrap (i + 1) = i + 1])) := by kernel_rfl
theorem n_tail (cs : List Value) (f : Fr) :
    roundOutH [2] [0] ((runHR Tryz.prog 0 (brH []) 100).1 38 tailN (canonF 21 [(3, nilS)] f) (hpOf [viewF cs])) =
    some (.ret, [nilS], 21, (1, 0, 0), [viewF cs], []) := by kernel_rfl
theorem n_tail1 (cs d : List Value) (q : Nat) (f : Fr) :
    roundOutH [2] [0, 1] ((runHR Tryz.prog 0 (brH []) 100).1 38 tailN (canonF 21 [(3, pK 1 q q)] f) (hpOf [viewF cs, rowF d])) =
    some (.ret, [pK 1 q q], 21, (2, 0, 0), [viewF cs, rowF d], []) := by kernel_rfl
end Go.Proofs.YthidmnghdoipiaaGreatDoor
