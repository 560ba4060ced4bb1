/- IP: bytes behind a packet's length: the ways of the law. -/
import Derived.Test.YtnfijnioclcnmaaDoorPrIpK
import Derived.Test.YtnfijnioclcnmaaDoorKit6
namespace Go.Proofs.YtnfijnioclcnmaaDoor
open Go Go.RowKit Go.Ev
abbrev pSm (m c : Nat) : Value := .slice (some ⟨1, 0, none⟩) m c
noncomputable abbrev trimH (ops : OpHints) : Hints := rowHints (P := Tryd.prog) ops [(8, awakeFn)] [(7, parseFn)] []
theorem trimH_ok (ops : OpHints) : (trimH ops).Ok Tryd.prog 0 := rowHints_ok AW_ok (.cons parse_ok .nil)

/-! ### it is no packet -/

theorem m_nil : callOut 0 ((runHR Tryd.prog 0 (trimH []) 40).2 5 [.slice none 0 0, .slice none 0 0] (bare 0)) = some (.bool true, []) := by kernel_rfl
theorem m_nil1 (ms : List Value) (m c : Nat) : callOut 1 ((runHR Tryd.prog 0 (trimH []) 40).2 5 [.slice none 0 0, pSl m c] (cameH ms 5)) = some (.bool true, []) := by kernel_rfl
theorem m_err (cs : List Value) (n c : Nat) :
    callOut 1 ((runHR Tryd.prog 0 (trimH [(5, 20, .bool true)]) 40).2 5 [pSl n c, .slice none 0 0] (cameH cs 5)) = some (.bool true, parsedP cs n c ++ [((parseF cs n).err != 0) = true]) := by kernel_rfl
theorem m_err1 (cs ms : List Value) (n c m d : Nat) :
    callOut 2 ((runHR Tryd.prog 0 (trimH [(5, 20, .bool true)]) 40).2 5 [pSl n c, pSm m d] (cameH2 cs ms 5)) = some (.bool true, parsedP cs n c ++ [((parseF cs n).err != 0) = true]) := by kernel_rfl

/-! ### it is one -/

abbrev mHints : OpHints :=
  [(5, 20, .bool false), (5, 24, .op apNilRule), (10, 12, .bool false), (10, 17, .op slRule), (10, 18, .op apNilRule), (5, 44, .bool true), (5, 48, .op eqRule), (5, 63, .bool true), (5, 67, .op strRule), (5, 69, .op strRule), (5, 70, .bool true)]
def offT (c : Nat) : Nat := 0 + bif decide (c = 0) then 0 else 0 * 1
def lenT (r : List Value) (n : Nat) : Nat := (parseF r n).len.toNat - 0
/-- 'Trim' of a row. -/
def trimP (r : List Value) (n : Nat) : List Prop :=
  parsedP r n n ++ [((parseF r n).err != 0) = false, n ≤ n, True, 0 ≤ (parseF r n).len ∧ (parseF r n).len ≤ (n : Int), True, 0 < lenT r n, lenT r n ≤ 140737488355328, offT n + lenT r n ≤ r.length, (takeL r (offT n) (lenT r n)).all oneCell = true]
def trimL (r : List Value) (n : Nat) : List Value := takeL r (offT n) (lenT r n)
def restP (cs : List Value) (n : Nat) (r : List Value) (k : Nat) : List Prop :=
  parsedP r k k ++ (trimP r k ++ (trimP (trimL r k) (lenT r k) ++
    [((parseF r k).err == 0) = true, (parseF cs n).cells = (parseF r k).cells, (((lenT r k : Nat) : Int) == (parseF cs n).len) = true,
     0 < lenT r k, 0 + lenT r k ≤ (trimL r k).length, (takeL (trimL r k) 0 (lenT r k)).all isU8 = true,
     0 < lenT (trimL r k) (lenT r k), 0 + lenT (trimL r k) (lenT r k) ≤ (trimL (trimL r k) (lenT r k)).length, (takeL (trimL (trimL r k) (lenT r k)) 0 (lenT (trimL r k) (lenT r k))).all isU8 = true,
     ((textOf (takeL (trimL r k) 0 (lenT r k))).toList == (textOf (takeL (trimL (trimL r k) (lenT r k)) 0 (lenT (trimL r k) (lenT r k)))).toList) = true]))
def firstP (cs : List Value) (n c : Nat) : List Prop := parsedP cs n c ++ [((parseF cs n).err != 0) = false, 0 < n, n ≤ 140737488355328, 0 + n ≤ cs.length, (takeL cs 0 n).all oneCell = true]
theorem m_none (cs : List Value) (n c : Nat) :
    callOut 1 ((runHR Tryd.prog 0 (trimH ((5, 27, .op apZeroRule) :: mHints)) 40).2 5 [pSl n c, .slice none 0 0] (cameH cs 5)) =
    some (.bool true, firstP cs n c ++ (n ≤ n) :: restP cs n (takeL cs 0 n) n) := by kernel_rfl
theorem m_empty (cs ms : List Value) (n c d : Nat) :
    callOut 2 ((runHR Tryd.prog 0 (trimH ((5, 27, .op apZeroRule) :: mHints)) 40).2 5 [pSl n c, pSm 0 d] (cameH2 cs ms 5)) =
    some (.bool true, firstP cs n c ++ (n ≤ n) :: restP cs n (takeL cs 0 n) n) := by kernel_rfl
def bothL (cs ms : List Value) (n m : Nat) : List Value := takeL (takeL cs 0 n) 0 n ++ takeL ms 0 m
def bothP (cs ms : List Value) (n m : Nat) : List Prop :=
  [0 < n, 0 < m, n < n + m, n + m ≤ 140737488355328, 0 + n ≤ (takeL cs 0 n).length, 0 + m ≤ ms.length, (takeL (takeL cs 0 n) 0 n).all oneCell = true, (takeL ms 0 m).all oneCell = true]
theorem m_more (cs ms : List Value) (n c m d : Nat) :
    callOut 2 ((runHR Tryd.prog 0 (trimH ((5, 27, .op apRule) :: mHints)) 40).2 5 [pSl n c, pSm m d] (cameH2 cs ms 5)) =
    some (.bool true, firstP cs n c ++ (bothP cs ms n m ++ restP cs n (bothL cs ms n m) (n + m))) := by kernel_rfl
end Go.Proofs.YtnfijnioclcnmaaDoor
