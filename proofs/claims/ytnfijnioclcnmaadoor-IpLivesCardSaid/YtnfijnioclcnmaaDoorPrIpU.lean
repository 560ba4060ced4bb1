/- IP: a packet with one less to live: the ways of a round. -/
import Derived.Test.YtnfijnioclcnmaaDoorPrIpT
import Derived.Test.YtnfijnioclcnmaaDoorPrIpJ
namespace Go.Proofs.YtnfijnioclcnmaaDoor
open Go Go.RowKit Go.Ev
abbrev goHints (i : Int) (v6 : Bool) : OpHints :=
  [(6, 39, .bool true), (11, 15, .bool false), (11, 20, .bool false), (10, 12, .bool false), (10, 17, .op slRule), (10, 18, .op apNilRule), (11, 28, .bool v6), (6, 56, .bool false), (6, 62, .int (i - 1)), (6, 63, .bool false), (6, 70, .op neRule), (6, 41, .int (i - 1))]
def goP (r : List Value) (q : Nat) (i : Int) (v6 : Bool) : List Prop :=
  (decide (i ≥ 2) = true) :: (parsedP r q q ++ (((parseF r q).err != 0) = false) :: (decide ((parseF r q).ttl < 2) = false) :: (trimP r q ++ [((parseF r q).ver == 6) = v6]))
def endP (p : PF) (d : List Value) (l : Nat) (i : Int) : List Prop :=
  parsedP d l l ++ [((parseF d l).err != 0) = false, W64i (i - 1) = i - 1, ((parseF d l).ttl != i - 1) = false, ({ parseF d l with ttl := p.ttl } : PF).cells = p.cells, W64i (i - 1) = i - 1]
def row6 (r : List Value) (q : Nat) (y : Int) : List Value := upd (trimL r q) 7 (.int .u8 y)
def goObj (cs r d : List Value) (p : PF) (q l : Nat) : List (Option AObj) :=
  [viewO cs, boxO p.cells, rowO r, boxO (parseF r q).cells, boxO (parseF r q).cells, rowO d, boxO ({ parseF d l with ttl := p.ttl } : PF).cells]
abbrev go6Hints (r : List Value) (q : Nat) (i y : Int) : OpHints :=
  goHints i true ++ [(11, 30, .op ixRule), (11, 31, .op (ldRule fun o => .int .u8 (byteAt (trimL r q) o))), (11, 32, .int y), (11, 33, .op ixRule), (11, 1000033, .op stRule)]
def go6P (r : List Value) (q : Nat) (y : Int) : List Prop :=
  [0 ≤ (7 : Int) ∧ (7 : Int) < (lenT r q : Int), nth (trimL r q) 7 = some (.int .u8 (byteAt (trimL r q) 7)), W8 (byteAt (trimL r q) 7 - 1) = y, 0 ≤ (7 : Int) ∧ (7 : Int) < (lenT r q : Int), 7 < (trimL r q).length, 0 ≤ 0 ∧ ¬ (0 ≤ 7 ∧ 7 < 0)]
theorem l_go6 (cs r : List Value) (p : PF) (q : Nat) (i y : Int) (f : Fr) :
    roundOutH [3, 7, 8] [0, 1, 2, 3, 4, 5, 6] ((runHR Tryd.prog 0 (liveH (go6Hints r q i y)) 40).1 6 loop6L (canonF 82 [(3, bxP 1), (7, pK 2 q q), (8, .int .i64 i)] f) (hpOf [viewO cs, boxO p.cells, rowO r])) =
    some (.normal, [bxP 1, pK 5 (lenT r q) (lenT r q), .int .i64 (i - 1)], 82, (7, 126, 120), goObj cs r (row6 r q y) p q (lenT r q), goP r q i true ++ (go6P r q y ++ endP p (row6 r q y) (lenT r q) i)) := by kernel_rfl
def hl (r : List Value) (q : Nat) : Nat := (parseF r q).hdr.toNat - 0
def ho (r : List Value) (q : Nat) : Nat := 0 + bif decide ((parseF r q).hdr.toNat = 0) then 0 else 0 * 1
def rowA (r : List Value) (q : Nat) (y : Int) : List Value := upd (trimL r q) 8 (.int .u8 y)
def row0 (r : List Value) (q : Nat) (y : Int) : List Value := upd (upd (rowA r q y) (ho r q + 10 * 1) (.int .u8 0)) (ho r q + 11 * 1) (.int .u8 0)
def sum0 (r : List Value) (q : Nat) (y : Int) : Int := sumV (row0 r q y) (ho r q) (hl r q)
def row4 (r : List Value) (q : Nat) (y : Int) : List Value := upd (upd (row0 r q y) (ho r q + 10 * 1) (.int .u8 (sum0 r q y / 256))) (ho r q + 11 * 1) (.int .u8 (sum0 r q y % 256))
abbrev go4Hints (r : List Value) (q : Nat) (i y : Int) : OpHints :=
  goHints i false ++ [(11, 36, .op ixRule), (11, 37, .op (ldRule fun o => .int .u8 (byteAt (trimL r q) o))), (11, 38, .int y), (11, 39, .op ixRule), (11, 1000039, .op stRule), (11, 45, .op slRule), (19, 5, .op ixRule), (19, 1000005, .op stRule), (19, 6, .op ixRule), (19, 1000006, .op stRule),
    (19, 12, .int (sum0 r q y / 256)), (19, 13, .int (sum0 r q y / 256)), (19, 15, .int (sum0 r q y % 256)), (19, 16, .op ixRule), (19, 1000016, .op stRule), (19, 17, .op ixRule), (19, 1000017, .op stRule)]
def ixP (n : Nat) (k : Int) : List Prop := [0 ≤ k ∧ k < (n : Int)]
def atP (l : List Value) (k : Nat) : List Prop := [k < l.length, 0 ≤ 0 ∧ ¬ (0 ≤ k ∧ k < 0)]
def go4P (r : List Value) (q : Nat) (y : Int) : List Prop :=
  [0 ≤ (8 : Int) ∧ (8 : Int) < (lenT r q : Int), nth (trimL r q) 8 = some (.int .u8 (byteAt (trimL r q) 8)), W8 (byteAt (trimL r q) 8 - 1) = y, 0 ≤ (8 : Int) ∧ (8 : Int) < (lenT r q : Int)] ++ (atP (trimL r q) 8 ++
  ([lenT r q ≤ lenT r q, 0 ≤ (parseF r q).hdr ∧ (parseF r q).hdr ≤ (lenT r q : Int), 0 ≤ (parseF r q).hdr ∧ (parseF r q).hdr ≤ ((parseF r q).hdr.toNat : Int), True] ++
  (ixP (hl r q) 10 ++ (atP (rowA r q y) (ho r q + 10 * 1) ++ (ixP (hl r q) 11 ++ (atP (upd (rowA r q y) (ho r q + 10 * 1) (.int .u8 0)) (ho r q + 11 * 1) ++
  ([Bytes (row0 r q y) (ho r q) (hl r q), (sum0 r q y).fdiv (2 ^ 8) = sum0 r q y / 256, W8 (sum0 r q y / 256) = sum0 r q y / 256, W8 (sum0 r q y) = sum0 r q y % 256] ++
  (ixP (hl r q) 10 ++ (atP (row0 r q y) (ho r q + 10 * 1) ++ (ixP (hl r q) 11 ++ atP (upd (row0 r q y) (ho r q + 10 * 1) (.int .u8 (sum0 r q y / 256))) (ho r q + 11 * 1)))))))))))
theorem l_go4 (cs r : List Value) (p : PF) (q : Nat) (i y : Int) (f : Fr) :
    roundOutH [3, 7, 8] [0, 1, 2, 3, 4, 5, 6] ((runHR Tryd.prog 0 (liveH (go4Hints r q i y)) 40).1 6 loop6L (canonF 82 [(3, bxP 1), (7, pK 2 q q), (8, .int .i64 i)] f) (hpOf [viewO cs, boxO p.cells, rowO r])) =
    some (.normal, [bxP 1, pK 5 (lenT r q) (lenT r q), .int .i64 (i - 1)], 82, (7, 126, 120), goObj cs r (row4 r q y) p q (lenT r q), goP r q i false ++ (go4P r q y ++ endP p (row4 r q y) (lenT r q) i)) := by kernel_rfl
end Go.Proofs.YtnfijnioclcnmaaDoor
