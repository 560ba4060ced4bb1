/- IP: the law of one turned bit: its calls. -/
import Derived.Test.YtnfijnioclcnmaaDoorPrIpG
import Derived.Test.YtnfijnioclcnmaaDoorKit4
namespace Go.Proofs.YtnfijnioclcnmaaDoor
open Go Go.RowKit Go.Ev
theorem awake_run : plainOut 0 ((runHR Tryd.prog 0 (plainHints [] []) 60).2 8 [] (bare 0)) = some (.bool true, []) := by kernel_rfl
def awakeFn : List Value → Option Value
  | [] => some (.bool true)
  | _ => none
theorem awake_tup (args : List Value) (v : Value) (e : awakeFn args = some v) (h : AH) : CTup Tryd.prog 0 8 args h (.ret v) h := by
  unfold awakeFn at e
  split at e
  · cases e
    exact plain_tup zerosFlat_here mixed_here (plainHints_ok Sums.Ok.nil) awake_run (fun p hp => by cases hp) rfl h
  · cases e
def AW : Sums := [(8, awakeFn)]
theorem AW_ok : Sums.Ok Tryd.prog 0 AW := Sums.Ok.cons awake_tup .nil

/-! ### the ways of the law -/

def parsedP (cs : List Value) (n c : Nat) : List Prop := [(5 : TypeId) = 5, (0 : Nat) = 0, n ≤ c, Bytes cs 0 n]
theorem t_err (cs : List Value) (lo hi : Nat) (ex st : Bool) (n c : Nat) (x b : Int) :
    rowOut ((runHR Tryd.prog 0 (rowHints (P := Tryd.prog) [(3, 18, .bool true)] [(8, awakeFn)] [(7, parseFn)] []) 40).2 3 ([] ++ pSl n c :: [.int .i64 x, .int .i64 b]) (rowH cs 5 lo hi ex st 0)) =
    some (.bool true, parsedP cs n c ++ [((parseF cs n).err != 0) = true]) := by kernel_rfl
theorem t_ver (cs : List Value) (lo hi : Nat) (ex st : Bool) (n c : Nat) (x b : Int) :
    rowOut ((runHR Tryd.prog 0 (rowHints (P := Tryd.prog) [(3, 18, .bool false), (3, 22, .bool true)] [(8, awakeFn)] [(7, parseFn)] []) 40).2 3 ([] ++ pSl n c :: [.int .i64 x, .int .i64 b]) (rowH cs 5 lo hi ex st 0)) =
    some (.bool true, parsedP cs n c ++ [((parseF cs n).err != 0) = false, ((parseF cs n).ver != 4) = true]) := by kernel_rfl
abbrev bxor8 (a b : Int) : Int := IntKind.u8.wrap ((BitVec.ofInt 8 a ^^^ BitVec.ofInt 8 b).toNat : Int)
def turnJ (H x : Int) : Int := 1 + (x.tmod (H - 1) + H - 1).tmod (H - 1)
def turned (cs : List Value) (n : Nat) (j : Nat) (y : Int) : List Value := upd (takeL cs 0 n) (0 + j * 1) (.int .u8 y)
abbrev tHints (cs : List Value) (n : Nat) (x b k y : Int) : OpHints :=
  [(3, 18, .bool false), (3, 22, .bool false), (3, 28, .int ((parseF cs n).hdr - 1)), (3, 29, .op (remRule (x.tmod ((parseF cs n).hdr - 1)))), (3, 32, .int (x.tmod ((parseF cs n).hdr - 1) + (parseF cs n).hdr)), (3, 33, .int (x.tmod ((parseF cs n).hdr - 1) + (parseF cs n).hdr - 1)),
   (3, 36, .int ((parseF cs n).hdr - 1)), (3, 37, .op (remRule ((x.tmod ((parseF cs n).hdr - 1) + (parseF cs n).hdr - 1).tmod ((parseF cs n).hdr - 1)))), (3, 38, .int (turnJ (parseF cs n).hdr x)), (3, 41, .op apNilRule), (3, 46, .op ixRule), (3, 47, .op (ldRule fun o => .int .u8 (byteAt (takeL cs 0 n) o))),
   (3, 50, .int (b.tmod 8 + 8)), (3, 51, .int k), (3, 54, .int y), (3, 55, .op ixRule), (3, 1000055, .op stRule), (3, 62, .bool true)]
def turnP (cs : List Value) (n c : Nat) (x b k y : Int) : List Prop :=
  parsedP cs n c ++ [((parseF cs n).err != 0) = false, ((parseF cs n).ver != 4) = false,
    W64i ((parseF cs n).hdr - 1) = (parseF cs n).hdr - 1, (parseF cs n).hdr - 1 ≠ 0, x.tmod ((parseF cs n).hdr - 1) = x.tmod ((parseF cs n).hdr - 1), W64i (x.tmod ((parseF cs n).hdr - 1) + (parseF cs n).hdr) = x.tmod ((parseF cs n).hdr - 1) + (parseF cs n).hdr,
    W64i (x.tmod ((parseF cs n).hdr - 1) + (parseF cs n).hdr - 1) = x.tmod ((parseF cs n).hdr - 1) + (parseF cs n).hdr - 1, W64i ((parseF cs n).hdr - 1) = (parseF cs n).hdr - 1, (parseF cs n).hdr - 1 ≠ 0,
    (x.tmod ((parseF cs n).hdr - 1) + (parseF cs n).hdr - 1).tmod ((parseF cs n).hdr - 1) = (x.tmod ((parseF cs n).hdr - 1) + (parseF cs n).hdr - 1).tmod ((parseF cs n).hdr - 1),
    W64i (1 + (x.tmod ((parseF cs n).hdr - 1) + (parseF cs n).hdr - 1).tmod ((parseF cs n).hdr - 1)) = turnJ (parseF cs n).hdr x,
    0 < n, n ≤ 140737488355328, 0 + n ≤ cs.length, (takeL cs 0 n).all oneCell = true,
    0 ≤ turnJ (parseF cs n).hdr x ∧ turnJ (parseF cs n).hdr x < (n : Int), nth (takeL cs 0 n) (0 + (turnJ (parseF cs n).hdr x).toNat * 1) = some (.int .u8 (byteAt (takeL cs 0 n) (0 + (turnJ (parseF cs n).hdr x).toNat * 1))),
    W64i (b.tmod 8 + 8) = b.tmod 8 + 8, (b.tmod 8 + 8).tmod 8 = k, bxor8 (byteAt (takeL cs 0 n) (0 + (turnJ (parseF cs n).hdr x).toNat * 1)) (2 ^ k.toNat) = y,
    0 ≤ turnJ (parseF cs n).hdr x ∧ turnJ (parseF cs n).hdr x < (n : Int), 0 + (turnJ (parseF cs n).hdr x).toNat * 1 < (takeL cs 0 n).length, 0 ≤ 0 ∧ ¬ (0 ≤ 0 + (turnJ (parseF cs n).hdr x).toNat * 1 ∧ 0 + (turnJ (parseF cs n).hdr x).toNat * 1 < 0)] ++
  (parsedP (turned cs n (turnJ (parseF cs n).hdr x).toNat y) n n ++ [((parseF (turned cs n (turnJ (parseF cs n).hdr x).toNat y) n).err != 0) = true])
theorem t_turn (cs : List Value) (lo hi : Nat) (ex st : Bool) (n c : Nat) (x b y k : Int) (hk : k = 0 ∨ k = 1 ∨ k = 2 ∨ k = 3 ∨ k = 4 ∨ k = 5 ∨ k = 6 ∨ k = 7) :
    rowOut ((runHR Tryd.prog 0 (rowHints (P := Tryd.prog) (tHints cs n x b k y) [(8, awakeFn)] [(7, parseFn)] []) 40).2 3 ([] ++ pSl n c :: [.int .i64 x, .int .i64 b]) (rowH cs 5 lo hi ex st 0)) =
    some (.bool true, turnP cs n c x b k y) := by
  rcases hk with rfl | rfl | rfl | rfl | rfl | rfl | rfl | rfl <;> kernel_rfl
/-- Nothing at all. -/
theorem t_nil (x b : Int) : plainOut 0 ((runHR Tryd.prog 0 (plainHints [] [(8, awakeFn)]) 40).2 3 [.slice none 0 0, .int .i64 x, .int .i64 b] (bare 0)) = some (.bool true, []) := by kernel_rfl
end Go.Proofs.YtnfijnioclcnmaaDoor
