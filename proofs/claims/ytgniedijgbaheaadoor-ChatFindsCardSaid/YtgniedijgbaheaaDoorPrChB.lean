/- Chat: a text is found as soon as it has come: the ways of a round. -/
import Derived.Test.YtgniedijgbaheaaDoorPrChA
namespace Go.Proofs.YtgniedijgbaheaaDoor
open Go Go.RowKit Go.Ev
abbrev nilS : Value := .slice none 0 0
def runC (at_ : Int) (waits : Bool) (s : ByteArray) (x now state : Int) (came : Value) (fresh : Int) (left : Value) : List Value :=
  [.slice (some ⟨2, 0, none⟩) 1 1, .int .i64 at_, .int .i64 0, .bool true, .bool waits, .int .i64 1, .string s, .int .i64 0, .bool false, nilS, .int .i64 x, .int .i64 45000, .int .i64 now, .int .i64 state, .int .i64 0, nilS, nilS, .pointer none, nilS, came, .int .i64 fresh, left]
def lRow (s : ByteArray) : List Value := [.int .i64 1, .string s, .int .i64 0, .bool false, nilS]
abbrev runO (c : List Value) : Option AObj := some (.cells c 67 0 0 true false)
abbrev lO (s : ByteArray) : Option AObj := some (.cells (lRow s) 25 0 0 false false)
abbrev rowO (cs : List Value) : Option AObj := some (.cells cs 5 0 0 false false)
abbrev oneO (b : Int) : Option AObj := some (.cells [.int .u8 b] 5 0 0 true false)
abbrev pK (k n c : Nat) : Value := .slice (some ⟨k, 0, none⟩) n c
abbrev rP : Value := .pointer (some ⟨1, 0, none⟩)
abbrev liveC (s : ByteArray) (n c : Nat) (x : Int) (met : Bool) (g : ByteArray) (i : Int) : List (Nat × Value) := [(0, .string s), (1, pSl n c), (2, .int .i64 x), (8, rP), (10, .bool met), (11, .string g), (12, .int .i64 i)]
abbrev slC : List Nat := [0, 1, 2, 8, 10, 11, 12]
abbrev vsC (s : ByteArray) (n c : Nat) (x : Int) (met : Bool) (g : ByteArray) (i : Int) : List Value := [.string s, pSl n c, .int .i64 x, rP, .bool met, .string g, .int .i64 i]
def oA (c : Nat) (i : Int) : Nat := 0 + bif decide (c = i.toNat) then 0 else i.toNat * 1
abbrev goHints (cs : List Value) (i : Int) (g1 : ByteArray) : OpHints :=
  [(3, 56, .bool true), (3, 59, .bool true), (3, 77, .int (i + 1)), (3, 78, .op (slNRule 1)), (27, 10, .bool false), (27, 13, .bool false), (12, 30, .int 0), (11, 26, .op (ldRule fun o => .int .u8 (byteAt cs o))),
   (3, 84, .int (i + 1)), (3, 85, .op (slNRule 1)), (3, 86, .op strRule), (3, 87, .op (catRule g1)), (3, 62, .int (i + 1))]
abbrev aHints (cs : List Value) (s g1 r : ByteArray) (i lo : Int) (ge e : Bool) (ap : OpRule) : OpHints := goHints cs i g1 ++
  [(29, 36, .op ap), (29, 44, .bool false), (29, 65, .int (i + 1)), (29, 66, .int (i + 1)), (48, 10, .bool ge), (48, 23, .int (i + 1 - (s.size : Int))), (48, 24, .int lo), (48, 25, .op slRule), (48, 26, .op strRule), (67, 9, .bool true), (67, 16, .int 0), (67, 17, .op (cutRule r)), (67, 19, .bool e),
   (3, 94, .bool ge), (3, 101, .int (i + 1 - (s.size : Int))), (3, 102, .op (cutRule r)), (3, 104, .bool e)]
abbrev W64 (x : Int) : Int := IntKind.i64.wrap x
def cutP (n c : Nat) (i : Int) : List Prop := [W64 (i + 1) = i + 1, (i + 1).toNat - i.toNat = 1, n ≤ c, True, 0 ≤ i + 1 ∧ i + 1 ≤ (c : Int), 0 ≤ i ∧ i ≤ (((i + 1).toNat : Nat) : Int)]
def feedP (n c : Nat) (x i : Int) : List Prop :=
  [decide (i < (n : Int)) = true, decide (i < 300) = true] ++ (cutP n c i ++ [decide (x < x) = false, decide (x > 1099511627776) = false])
def gotP (cs : List Value) (n c : Nat) (i : Int) (g g1 : ByteArray) : List Prop :=
  cutP n c i ++ [0 < 1, oA c i + 1 ≤ cs.length, (takeL cs (oA c i) 1).all isU8 = true, g.size + (textOf (takeL cs (oA c i) 1)).size ≤ 9223372036854775807, g ++ textOf (takeL cs (oA c i) 1) = g1]
def ldP (cs : List Value) (c : Nat) (i : Int) : List Prop := [nth cs (oA c i) = some (.int .u8 (byteAt cs (oA c i)))]
def nilP (b : Int) : List Prop := [0 < 1, 1 ≤ 140737488355328, 0 + 1 ≤ [Value.int .u8 b].length, (takeL [Value.int .u8 b] 0 1).all oneCell = true]
def addP (d : List Value) (q : Nat) (b : Int) : List Prop := [0 < q, 0 < 1, q < q + 1, q + 1 ≤ 140737488355328, 0 + q ≤ d.length, 0 + 1 ≤ [Value.int .u8 b].length, (takeL d 0 q).all oneCell = true, (takeL [Value.int .u8 b] 0 1).all oneCell = true]
def endedP (d : List Value) (m : Nat) (s r : ByteArray) (i lo : Int) (ge e : Bool) : List Prop :=
  [decide ((m : Int) > 4096) = false, W64 (i + 1) = i + 1, (if (1024 : Int) < i + 1 then 1024 else i + 1) = i + 1, decide (i + 1 ≥ (s.size : Int)) = ge] ++ bif ge then
    [W64 ((m : Int) - (s.size : Int)) = i + 1 - (s.size : Int), (if (0 : Int) > i + 1 - (s.size : Int) then 0 else i + 1 - (s.size : Int)) = lo, m ≤ m, True, True, 0 ≤ lo ∧ lo ≤ (m : Int),
     0 < m - lo.toNat, (0 + bif decide (m = lo.toNat) then 0 else lo.toNat * 1) + (m - lo.toNat) ≤ d.length, (takeL d (0 + bif decide (m = lo.toNat) then 0 else lo.toNat * 1) (m - lo.toNat)).all isU8 = true,
     decide (((textOf (takeL d (0 + bif decide (m = lo.toNat) then 0 else lo.toNat * 1) (m - lo.toNat))).size : Int) ≥ (s.size : Int)) = true, W64 (((textOf (takeL d (0 + bif decide (m = lo.toNat) then 0 else lo.toNat * 1) (m - lo.toNat))).size : Int) - (s.size : Int)) = 0, True, 0 ≤ (0 : Int) ∧ (0 : Int) ≤ (((textOf (takeL d (0 + bif decide (m = lo.toNat) then 0 else lo.toNat * 1) (m - lo.toNat))).size : Nat) : Int), (textOf (takeL d (0 + bif decide (m = lo.toNat) then 0 else lo.toNat * 1) (m - lo.toNat))).extract (0 : Int).toNat (textOf (takeL d (0 + bif decide (m = lo.toNat) then 0 else lo.toNat * 1) (m - lo.toNat))).size = r, (r.toList == s.toList) = e] else []
def metP (s g1 r : ByteArray) (i : Int) (ge e : Bool) : List Prop :=
  [decide ((g1.size : Int) ≥ (s.size : Int)) = ge] ++ bif ge then [W64 ((g1.size : Int) - (s.size : Int)) = i + 1 - (s.size : Int), True, 0 ≤ i + 1 - (s.size : Int) ∧ i + 1 - (s.size : Int) ≤ ((g1.size : Nat) : Int), g1.extract (i + 1 - (s.size : Int)).toNat g1.size = r, (r.toList == s.toList) = e] else []
theorem a_first (cs : List Value) (s g g1 r : ByteArray) (n c : Nat) (x i lo : Int) (ge e : Bool) (f : Fr) :
    roundOutH slC [0, 1, 2, 3, 4] ((runHR Tryd.prog 0 (chH (aHints cs s g1 r i lo ge e apNilRule)) 200).1 3 loopC (canonF 143 (liveC s n c x false g i) f) (hpOf [viewO cs, runO (runC 0 true s x x 0 nilS i nilS), lO s])) =
    some (.normal, vsC s n c x (ge && e) g1 (i + 1), 143, (5, bif ge then 27 else 11, 2), [viewO cs, runO (bif ge && e then runC 1 false s x x 1 (pK 4 1 1) (i + 1) nilS else runC 0 true s x x 0 (pK 4 1 1) (i + 1) nilS), lO s, oneO (byteAt cs (oA c i)), rowO (takeL [Value.int .u8 (byteAt cs (oA c i))] 0 1)],
      feedP n c x i ++ ((W64 (x - x) = 0) :: (ldP cs c i ++ (nilP (byteAt cs (oA c i)) ++ (endedP (takeL [Value.int .u8 (byteAt cs (oA c i))] 0 1) 1 s r i lo ge e ++ (gotP cs n c i g g1 ++ (metP s g1 r i ge e ++ [W64 (i + 1) = i + 1]))))))) := by
  cases ge
  · kernel_rfl
  · cases e <;> kernel_rfl
theorem a_next (cs d : List Value) (s g g1 r : ByteArray) (n c q : Nat) (x i lo : Int) (ge e : Bool) (f : Fr) :
    roundOutH slC [0, 1, 2, 3, 4, 5] ((runHR Tryd.prog 0 (chH (aHints cs s g1 r i lo ge e apRule)) 200).1 3 loopC (canonF 143 (liveC s n c x false g i) f) (hpOf [viewO cs, runO (runC 0 true s x x 0 (pK 3 q q) i nilS), lO s, rowO d])) =
    some (.normal, vsC s n c x (ge && e) g1 (i + 1), 143, (6, bif ge then 59 else 27, 10), [viewO cs, runO (bif ge && e then runC 1 false s x x 1 (pK 5 (q + 1) (q + 1)) (i + 1) nilS else runC 0 true s x x 0 (pK 5 (q + 1) (q + 1)) (i + 1) nilS), lO s, none, oneO (byteAt cs (oA c i)), rowO (takeL d 0 q ++ takeL [Value.int .u8 (byteAt cs (oA c i))] 0 1)],
      feedP n c x i ++ ((W64 (x - x) = 0) :: (ldP cs c i ++ (addP d q (byteAt cs (oA c i)) ++ (endedP (takeL d 0 q ++ takeL [Value.int .u8 (byteAt cs (oA c i))] 0 1) (q + 1) s r i lo ge e ++ (gotP cs n c i g g1 ++ (metP s g1 r i ge e ++ [W64 (i + 1) = i + 1]))))))) := by
  cases ge
  · kernel_rfl
  · cases e <;> kernel_rfl

/-! ### it has been found already -/

abbrev bHints (cs : List Value) (i : Int) (g1 : ByteArray) (ap : OpRule) : OpHints := goHints cs i g1 ++ [(29, 26, .op ap)]
theorem b_first (cs : List Value) (s g g1 : ByteArray) (n c : Nat) (x i at_ fr : Int) (cm : Value) (f : Fr) :
    roundOutH slC [0, 1, 2, 3, 4] ((runHR Tryd.prog 0 (chH (bHints cs i g1 apNilRule)) 200).1 3 loopC (canonF 143 (liveC s n c x true g i) f) (hpOf [viewO cs, runO (runC at_ false s x x 1 cm fr nilS), lO s])) =
    some (.normal, vsC s n c x true g1 (i + 1), 143, (5, 11, 2), [viewO cs, runO (runC at_ false s x x 1 cm fr (pK 4 1 1)), lO s, oneO (byteAt cs (oA c i)), rowO (takeL [Value.int .u8 (byteAt cs (oA c i))] 0 1)],
      feedP n c x i ++ (ldP cs c i ++ (nilP (byteAt cs (oA c i)) ++ (gotP cs n c i g g1 ++ [W64 (i + 1) = i + 1])))) := by kernel_rfl
theorem b_next (cs d : List Value) (s g g1 : ByteArray) (n c q : Nat) (x i at_ fr : Int) (cm : Value) (f : Fr) :
    roundOutH slC [0, 1, 2, 3, 4, 5] ((runHR Tryd.prog 0 (chH (bHints cs i g1 apRule)) 200).1 3 loopC (canonF 143 (liveC s n c x true g i) f) (hpOf [viewO cs, runO (runC at_ false s x x 1 cm fr (pK 3 q q)), lO s, rowO d])) =
    some (.normal, vsC s n c x true g1 (i + 1), 143, (6, 27, 10), [viewO cs, runO (runC at_ false s x x 1 cm fr (pK 5 (q + 1) (q + 1))), lO s, none, oneO (byteAt cs (oA c i)), rowO (takeL d 0 q ++ takeL [Value.int .u8 (byteAt cs (oA c i))] 0 1)],
      feedP n c x i ++ (ldP cs c i ++ (addP d q (byteAt cs (oA c i)) ++ (gotP cs n c i g g1 ++ [W64 (i + 1) = i + 1])))) := by kernel_rfl
end Go.Proofs.YtgniedijgbaheaaDoor
