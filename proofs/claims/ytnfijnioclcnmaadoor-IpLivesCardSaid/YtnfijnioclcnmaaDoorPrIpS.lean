/- IP: a sum behind what it sums: the ways of the law. -/
import Derived.Test.YtnfijnioclcnmaaDoorPrIpL
import Derived.Test.YtnfijnioclcnmaaDoorKit6
namespace Go.Proofs.YtnfijnioclcnmaaDoor
open Go Go.RowKit Go.Ev
noncomputable abbrev sumsH (ops : OpHints) : Hints := rowHints (P := Tryd.prog) ops [(8, awakeFn)] [(9, sumFn)] []
theorem sumsH_ok (ops : OpHints) : (sumsH ops).Ok Tryd.prog 0 := rowHints_ok AW_ok (.cons sum_ok .nil)
noncomputable abbrev plainH (ops : OpHints) : Hints := rowHints (P := Tryd.prog) ops [(8, awakeFn)] [] []
theorem plainH_ok (ops : OpHints) : (plainH ops).Ok Tryd.prog 0 := rowHints_ok AW_ok .nil

/-! ### hardly a byte -/

theorem s_nil (x : Int) : callOut 0 ((runHR Tryd.prog 0 (plainH []) 40).2 4 [.slice none 0 0, .int .i64 x] (bare 0)) = some (.bool true, []) := by kernel_rfl
theorem s_zero (cs : List Value) (c : Nat) (x : Int) : callOut 1 ((runHR Tryd.prog 0 (plainH []) 40).2 4 [pSl 0 c, .int .i64 x] (cameH cs 5)) = some (.bool true, []) := by kernel_rfl
theorem s_one (cs : List Value) (c : Nat) (x : Int) : callOut 1 ((runHR Tryd.prog 0 (plainH [(4, 19, .op slRule)]) 40).2 4 [pSl 1 c, .int .i64 x] (cameH cs 5)) = some (.bool true, [1 ≤ c, True, 0 ≤ (0 : Int) ∧ (0 : Int) ≤ (c : Int), True]) := by kernel_rfl

/-! ### the code's pieces -/

noncomputable def body4 : Code := (Tryd.f4.body).getD .skip
noncomputable def pre4 : Code := match splitSeq 6 body4 with
  | some (p, _) => p
  | none => .skip
noncomputable def rest4 : Code := match splitSeq 6 body4 with
  | some (_, r) => r
  | none => .skip
noncomputable def loop4 : Code := match rest4 with
  | .seq (.seq _ (.block _ (.loop b))) _ => b
  | _ => .skip
noncomputable def init4 : Code := match rest4 with
  | .seq (.seq a _) _ => a
  | _ => .skip
noncomputable def tail4 : Code := match rest4 with
  | .seq _ t => t
  | _ => .skip
theorem split4 : splitSeq 6 body4 = some (pre4, rest4) := by kernel_rfl
theorem rest4_eq : rest4 = .seq (.seq init4 (.block 0 (.loop loop4))) tail4 := by kernel_rfl
theorem f4_at : Tryd.prog.funcs[4]? = some Tryd.f4 := by kernel_rfl
theorem f4_body : Tryd.f4.body = some body4 := by kernel_rfl
abbrev pSo (o n c : Nat) : Value := .slice (some ⟨0, o, none⟩) n c
abbrev viewO (cs : List Value) : Option AObj := some (.cells cs 5 1 0 false false)
abbrev rowO (cs : List Value) : Option AObj := some (.cells cs 5 0 0 false false)
abbrev pK (k n c : Nat) : Value := .slice (some ⟨k, 0, none⟩) n c
def sm (cs : List Value) (o n : Nat) : Int := sumV cs o n
/-- The sum's two bytes. -/
def twoB (s : Int) : List Value := [.int .u8 (s / 256), .int .u8 (s % 256)]
def cRow (cs : List Value) (o n : Nat) : List Value := takeL (takeL cs o n) 0 n ++ takeL (twoB (sumV cs o n)) 0 2
abbrev W8 (x : Int) : Int := IntKind.u8.wrap x
def preP (cs : List Value) (o n : Nat) : List Prop :=
  [Bytes cs o n, 0 < n, n ≤ 140737488355328, o + n ≤ cs.length, (takeL cs o n).all oneCell = true, W64i ((sumV cs o n).tdiv 256) = sumV cs o n / 256, W8 (sumV cs o n / 256) = sumV cs o n / 256, W8 (sumV cs o n) = sumV cs o n % 256,
   0 < n, 0 < 2, n < n + 2, n + 2 ≤ 140737488355328, 0 + n ≤ (takeL cs o n).length, 0 + 2 ≤ (twoB (sumV cs o n)).length, (takeL (takeL cs o n) 0 n).all oneCell = true, (takeL (twoB (sumV cs o n)) 0 2).all oneCell = true, W64i ((n : Int).tdiv 2) = (n : Int) / 2]
abbrev preHints (cs : List Value) (o n : Nat) (l : Int) (odd : Bool) : OpHints :=
  [(4, 14, .bool odd), (4, 18, .int (l - 1)), (4, 19, .op slRule), (4, 24, .op apNilRule), (4, 27, .int (sumV cs o n / 256)), (4, 28, .int (sumV cs o n / 256)), (4, 30, .int (sumV cs o n % 256)), (4, 32, .op apRule), (4, 35, .int ((n : Int) / 2))]
def preObj (cs : List Value) (o n : Nat) : List (Option AObj) := [viewO cs, none, some (.cells (twoB (sumV cs o n)) 5 0 0 true false), rowO (cRow cs o n)]
theorem r_even (cs : List Value) (n c : Nat) (x : Int) (f : Fr) :
    roundOutH [0, 1, 5, 6, 7, 8] [0, 1, 2, 3] ((runHR Tryd.prog 0 (sumsH (preHints cs 0 n n false)) 40).1 4 pre4 (canonF 86 [(0, pSl n c), (1, .int .i64 x)] f) (hpOf [viewO cs])) =
    some (.normal, [pSo 0 n c, .int .i64 x, .int .i64 (sumV cs 0 n), pK 3 (n + 2) (n + 2), .slice none 0 0, .int .i64 ((n : Int) / 2)], 86, (4, 7, 2), preObj cs 0 n, (((n : Int).tmod 2 != 0) = false) :: preP cs 0 n) := by kernel_rfl
def oddN (n : Nat) : Nat := ((n : Int) - 1).toNat - 0
theorem r_odd (cs : List Value) (n c : Nat) (x : Int) (f : Fr) :
    roundOutH [0, 1, 5, 6, 7, 8] [0, 1, 2, 3] ((runHR Tryd.prog 0 (sumsH (preHints cs (offT c) (oddN n) n true)) 40).1 4 pre4 (canonF 86 [(0, pSl n c), (1, .int .i64 x)] f) (hpOf [viewO cs])) =
    some (.normal, [pSo (offT c) (oddN n) (c - 0), .int .i64 x, .int .i64 (sumV cs (offT c) (oddN n)), pK 3 (oddN n + 2) (oddN n + 2), .slice none 0 0, .int .i64 ((oddN n : Int) / 2)], 86, (4, 7, 2), preObj cs (offT c) (oddN n),
      (((n : Int).tmod 2 != 0) = true) :: (W64i ((n : Int) - 1) = (n : Int) - 1) :: (n ≤ c) :: True :: (0 ≤ (n : Int) - 1 ∧ (n : Int) - 1 ≤ (c : Int)) :: True :: preP cs (offT c) (oddN n)) := by kernel_rfl

/-! ### the loop -/

def idxV (p x i : Int) : Int := ((i + x.tmod p).tmod p + p).tmod p
def pairL (cs : List Value) (o : Nat) (k : Int) : List Value := [.int .u8 (byteAt cs (o + (2 * k).toNat * 1)), .int .u8 (byteAt cs (o + (2 * k + 1).toNat * 1))]
def dRow (cs : List Value) (o : Nat) (p x : Int) : Nat → List Value
  | 0 => []
  | k + 1 => match k with
    | 0 => takeL (pairL cs o (idxV p x 0)) 0 2
    | j + 1 => takeL (dRow cs o p x (j + 1)) 0 (2 * (j + 1)) ++ takeL (pairL cs o (idxV p x ((j + 1 : Nat) : Int))) 0 2
def dVal : Nat → Value
  | 0 => .slice none 0 0
  | k + 1 => pK 2 (2 * (k + 1)) (2 * (k + 1))
def live4 (o n c : Nat) (x s p : Int) (m : Nat) (d : Value) (i : Int) : List (Nat × Value) := [(0, pSo o n c), (1, .int .i64 x), (5, .int .i64 s), (6, pK 1 m m), (7, d), (8, .int .i64 p), (9, .int .i64 i)]
theorem r_init (cs r : List Value) (o n c m : Nat) (x s p : Int) (f : Fr) :
    roundOutH [0, 1, 5, 6, 7, 8, 9] [0, 1] ((runHR Tryd.prog 0 (sumsH []) 40).1 4 init4 (canonF 86 [(0, pSo o n c), (1, .int .i64 x), (5, .int .i64 s), (6, pK 1 m m), (7, .slice none 0 0), (8, .int .i64 p)] f) (hpOf [viewO cs, rowO r])) =
    some (.normal, [pSo o n c, .int .i64 x, .int .i64 s, pK 1 m m, .slice none 0 0, .int .i64 p, .int .i64 0], 86, (2, 0, 0), [viewO cs, rowO r], []) := by kernel_rfl
abbrev stepHints (cs : List Value) (p x i : Int) (go : Bool) (ap : OpRule) : OpHints :=
  [(4, 38, .bool go), (4, 44, .op (remRule (x.tmod p))), (4, 45, .int (i + x.tmod p)), (4, 47, .op (remRule ((i + x.tmod p).tmod p))), (4, 49, .int ((i + x.tmod p).tmod p + p)), (4, 51, .op (remRule (idxV p x i))), (4, 55, .int (2 * idxV p x i)), (4, 56, .op ixRule), (4, 57, ldB cs),
   (4, 60, .int (2 * idxV p x i)), (4, 61, .int (2 * idxV p x i + 1)), (4, 62, .op ixRule), (4, 63, ldB cs), (4, 65, .op ap), (4, 40, .int (i + 1))]
def lpP (cs : List Value) (o n : Nat) (p x i : Int) : List Prop :=
  [decide (i < p) = true, p ≠ 0, x.tmod p = x.tmod p, W64i (i + x.tmod p) = i + x.tmod p, p ≠ 0, (i + x.tmod p).tmod p = (i + x.tmod p).tmod p, W64i ((i + x.tmod p).tmod p + p) = (i + x.tmod p).tmod p + p, p ≠ 0, idxV p x i = idxV p x i,
   W64i (2 * idxV p x i) = 2 * idxV p x i, 0 ≤ 2 * idxV p x i ∧ 2 * idxV p x i < (n : Int), nth cs (o + (2 * idxV p x i).toNat * 1) = some (.int .u8 (byteAt cs (o + (2 * idxV p x i).toNat * 1))),
   W64i (2 * idxV p x i) = 2 * idxV p x i, W64i (2 * idxV p x i + 1) = 2 * idxV p x i + 1, 0 ≤ 2 * idxV p x i + 1 ∧ 2 * idxV p x i + 1 < (n : Int), nth cs (o + (2 * idxV p x i + 1).toNat * 1) = some (.int .u8 (byteAt cs (o + (2 * idxV p x i + 1).toNat * 1)))]
def apNilP (l : List Value) : List Prop := [0 < 2, 2 ≤ 140737488355328, 0 + 2 ≤ l.length, (takeL l 0 2).all oneCell = true]
def apP (d : List Value) (n : Nat) (l : List Value) : List Prop := [0 < n, 0 < 2, n < n + 2, n + 2 ≤ 140737488355328, 0 + n ≤ d.length, 0 + 2 ≤ l.length, (takeL d 0 n).all oneCell = true, (takeL l 0 2).all oneCell = true]
theorem r_first (cs r : List Value) (o n c m : Nat) (x s p : Int) (f : Fr) :
    roundOutH [0, 1, 5, 6, 7, 8, 9] [0, 1, 2, 3] ((runHR Tryd.prog 0 (sumsH (stepHints cs p x 0 true apNilRule)) 40).1 4 loop4 (canonF 86 (live4 o n c x s p m (.slice none 0 0) 0) f) (hpOf [viewO cs, rowO r])) =
    some (.normal, [pSo o n c, .int .i64 x, .int .i64 s, pK 1 m m, pK 3 2 2, .int .i64 p, .int .i64 (0 + 1)], 86, (4, 5, 0), [viewO cs, rowO r, some (.cells (pairL cs o (idxV p x 0)) 5 0 0 true false), rowO (takeL (pairL cs o (idxV p x 0)) 0 2)],
      lpP cs o n p x 0 ++ (apNilP (pairL cs o (idxV p x 0)) ++ [W64i (0 + 1) = 0 + 1])) := by kernel_rfl
theorem r_next (cs r d : List Value) (o n c m q : Nat) (x s p i : Int) (f : Fr) :
    roundOutH [0, 1, 5, 6, 7, 8, 9] [0, 1, 2, 3, 4] ((runHR Tryd.prog 0 (sumsH (stepHints cs p x i true apRule)) 40).1 4 loop4 (canonF 86 (live4 o n c x s p m (pK 2 q q) i) f) (hpOf [viewO cs, rowO r, rowO d])) =
    some (.normal, [pSo o n c, .int .i64 x, .int .i64 s, pK 1 m m, pK 4 (q + 2) (q + 2), .int .i64 p, .int .i64 (i + 1)], 86, (5, 13, 4), [viewO cs, rowO r, none, some (.cells (pairL cs o (idxV p x i)) 5 0 0 true false), rowO (takeL d 0 q ++ takeL (pairL cs o (idxV p x i)) 0 2)],
      lpP cs o n p x i ++ (apP d q (pairL cs o (idxV p x i)) ++ [W64i (i + 1) = i + 1])) := by kernel_rfl
theorem r_done (cs r d : List Value) (o n c m q : Nat) (x s p i : Int) (f : Fr) :
    roundOutH [0, 1, 5, 6, 7, 8, 9] [0, 1, 2] ((runHR Tryd.prog 0 (sumsH [(4, 38, .bool false)]) 40).1 4 loop4 (canonF 86 (live4 o n c x s p m (pK 2 q q) i) f) (hpOf [viewO cs, rowO r, rowO d])) =
    some (.exit 0, [pSo o n c, .int .i64 x, .int .i64 s, pK 1 m m, pK 2 q q, .int .i64 p, .int .i64 i], 86, (3, 0, 0), [viewO cs, rowO r, rowO d], [decide (i < p) = false]) := by kernel_rfl
theorem r_tail (cs r d : List Value) (o n c m q : Nat) (x s p i : Int) (f : Fr) :
    roundOutH [4] [0, 1, 2] ((runHR Tryd.prog 0 (sumsH [(4, 67, .bool true), (4, 70, .bool true), (4, 75, .bool true), (4, 81, .bool true)]) 40).1 4 tail4 (canonF 86 (live4 o n c x s p m (pK 2 q q) i) f) (hpOf [viewO cs, rowO r, rowO d])) =
    some (.ret, [.bool true], 86, (3, 6, 0), [viewO cs, rowO r, rowO d], [decide (s ≥ 0) = true, decide (s ≤ 65535) = true, Bytes r 0 m, (sumV r 0 m == 0) = true, Bytes d 0 q, (sumV d 0 q == s) = true]) := by kernel_rfl
end Go.Proofs.YtnfijnioclcnmaaDoor
