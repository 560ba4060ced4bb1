/- IP: a packet with one less to live: the ways of the law. -/
import Derived.Test.YtnfijnioclcnmaaDoorPrIpM
import Derived.Test.YtnfijnioclcnmaaDoorKit6
namespace Go.Proofs.YtnfijnioclcnmaaDoor
open Go Go.RowKit Go.Ev
noncomputable abbrev liveH (ops : OpHints) : Hints := rowHints (P := Tryd.prog) ops [(8, awakeFn)] [(7, parseFn), (9, sumFn)] []
theorem liveH_ok (ops : OpHints) : (liveH ops).Ok Tryd.prog 0 := rowHints_ok AW_ok (.cons parse_ok (.cons sum_ok .nil))

/-! ### it is no packet -/

theorem l_nil : callOut 0 ((runHR Tryd.prog 0 (rowHints (P := Tryd.prog) [] [(8, awakeFn)] [] []) 40).2 6 [.slice none 0 0] (bare 0)) = some (.bool true, []) := by kernel_rfl
theorem l_err (cs : List Value) (n c : Nat) :
    callOut 1 ((runHR Tryd.prog 0 (liveH [(6, 21, .bool true), (11, 15, .bool true), (6, 29, .bool true)]) 40).2 6 [pSl n c] (cameH cs 5)) =
    some (.bool true, parsedP cs n c ++ (((parseF cs n).err != 0) = true) :: (parsedP cs n c ++ [((parseF cs n).err != 0) = true, ((parseF cs n).err == (parseF cs n).err) = true])) := by kernel_rfl

/-! ### the code's pieces -/

noncomputable def body6L : Code := (Tryd.f6.body).getD .skip
noncomputable def pre6L : Code := match splitSeq 4 body6L with
  | some (p, _) => p
  | none => .skip
noncomputable def rest6L : Code := match splitSeq 4 body6L with
  | some (_, r) => r
  | none => .skip
noncomputable def loop6L : Code := match rest6L with
  | .seq (.seq _ (.block _ (.loop b))) _ => b
  | _ => .skip
noncomputable def init6L : Code := match rest6L with
  | .seq (.seq a _) _ => a
  | _ => .skip
noncomputable def tail6L : Code := match rest6L with
  | .seq _ t => t
  | _ => .skip
theorem split6L : splitSeq 4 body6L = some (pre6L, rest6L) := by kernel_rfl
theorem rest6L_eq : rest6L = .seq (.seq init6L (.block 0 (.loop loop6L))) tail6L := by kernel_rfl
theorem f6_at : Tryd.prog.funcs[6]? = some Tryd.f6 := by kernel_rfl
theorem f6_body : Tryd.f6.body = some body6L := by kernel_rfl
abbrev boxO (cs : List Value) : Option AObj := some (.cells cs 25 0 0 true false)
abbrev bxP (k : Nat) : Value := .pointer (some ⟨k, 0, none⟩)
theorem l_pre (cs : List Value) (n c : Nat) (f : Fr) :
    roundOutH [3, 7] [0, 1, 2] ((runHR Tryd.prog 0 (liveH [(6, 21, .bool false), (6, 35, .op apNilRule)]) 40).1 6 pre6L (canonF 82 [(0, pSl n c)] f) (hpOf [viewO cs])) =
    some (.normal, [bxP 1, pK 2 n n], 82, (3, 1, 2), [viewO cs, boxO (parseF cs n).cells, rowO (takeL cs 0 n)], parsedP cs n c ++ [((parseF cs n).err != 0) = false, 0 < n, n ≤ 140737488355328, 0 + n ≤ cs.length, (takeL cs 0 n).all oneCell = true]) := by kernel_rfl
theorem l_init (cs r : List Value) (p : PF) (q : Nat) (f : Fr) :
    roundOutH [3, 7, 8] [0, 1, 2] ((runHR Tryd.prog 0 (liveH []) 40).1 6 init6L (canonF 82 [(3, bxP 1), (7, pK 2 q q)] f) (hpOf [viewO cs, boxO p.cells, rowO r])) =
    some (.normal, [bxP 1, pK 2 q q, .int .i64 p.ttl], 82, (3, 2, 0), [viewO cs, boxO p.cells, rowO r], []) := by kernel_rfl
theorem l_done (cs r : List Value) (p : PF) (q : Nat) (i : Int) (f : Fr) :
    roundOutH [3, 7, 8] [0, 1, 2] ((runHR Tryd.prog 0 (liveH [(6, 39, .bool false)]) 40).1 6 loop6L (canonF 82 [(3, bxP 1), (7, pK 2 q q), (8, .int .i64 i)] f) (hpOf [viewO cs, boxO p.cells, rowO r])) =
    some (.exit 0, [bxP 1, pK 2 q q, .int .i64 i], 82, (3, 0, 0), [viewO cs, boxO p.cells, rowO r], [decide (i ≥ 2) = false]) := by kernel_rfl
theorem l_tail (cs r : List Value) (p : PF) (q : Nat) (i : Int) (f : Fr) :
    roundOutH [2] [0, 1, 2, 3] ((runHR Tryd.prog 0 (liveH [(11, 15, .bool false), (11, 20, .bool true)]) 40).1 6 tail6L (canonF 82 [(3, bxP 1), (7, pK 2 q q), (8, .int .i64 i)] f) (hpOf [viewO cs, boxO p.cells, rowO r])) =
    some (.ret, [.bool true], 82, (4, 12, 8), [viewO cs, boxO p.cells, rowO r, boxO (parseF r q).cells], parsedP r q q ++ [((parseF r q).err != 0) = false, decide ((parseF r q).ttl < 2) = true]) := by kernel_rfl
end Go.Proofs.YtnfijnioclcnmaaDoor
