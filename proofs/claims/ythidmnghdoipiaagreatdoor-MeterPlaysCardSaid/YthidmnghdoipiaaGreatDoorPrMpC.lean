/- Meter: whatever goes over a link: the ways of a round. -/
import Derived.Test.YthidmnghdoipiaaGreatDoorPrMpB
namespace Go.Proofs.YthidmnghdoipiaaGreatDoor
open Go Go.RowKit Go.Ev
abbrev W64 (x : Int) : Int := IntKind.i64.wrap x
abbrev opL (k : Int) (o : Bool) (x y z : Int) : List Value := [.int .i64 k, .bool o, .int .i64 x, .int .i64 y, .int .i64 z]
abbrev goHints (k : Int) (o : Bool) (x y z : Int) (k0 k1 : Bool) : OpHints :=
  [(3, 20, .op ixRule), (3, 21, .op (ldsRule (opL k o x y z))), (3, 34, .bool k0), (3, 53, .bool k1)]
abbrev at5 (i : Int) : Nat := 0 + i.toNat * 5
def goP (cs : List Value) (n : Nat) (i k : Int) (o : Bool) (x y z : Int) : List Prop := [0 ≤ i ∧ i < (n : Int), at5 i + 5 ≤ cs.length, takeL cs (at5 i) 5 = opL k o x y z]
abbrev fK : Nat := 4652007308841189376
abbrev fI (x : Int) : Nat := floatOfInt .f64 x
/-- What 'same' asks of one way: the meter's 'X', the reference's 'Y'. -/
def sameP (t : Int) (X Y : Wy) : List Prop :=
  [(X.p != Y.p) = false, (X.b != Y.b) = false, (X.w != Y.w) = false, (X.l != Y.l) = false, (floatBits .mul .f64 (fI X.b) fK).isSome = true, (floatBits .mul .f64 (fI Y.b) fK).isSome = true,
   (((ratF (valF .mul (fI X.b) fK) (fI t) : Nat) : Int) == ((ratF (valF .mul (fI Y.b) fK) (fI t) : Nat) : Int)) = true,
   (((ratF (fI (W64 (X.b - X.w))) (fI X.b) : Nat) : Int) == ((ratF (fI (W64 (Y.b - Y.w))) (fI Y.b) : Nat) : Int)) = true,
   (((ratF (fI X.l) (fI (W64 (X.l + X.p))) : Nat) : Int) == ((ratF (fI Y.l) (fI (W64 (Y.l + Y.p))) : Nat) : Int)) = true,
   ((X.f : Int) == (Y.f : Int)) = true]
abbrev most : Int := 1152921504606846976
abbrev much : Int := 1099511627776
abbrev sel (o : Bool) (A B : Wy) : Wy := bif o then B else A
abbrev putA (o : Bool) (A X : Wy) : Wy := bif o then A else X
abbrev putB (o : Bool) (B X : Wy) : Wy := bif o then X else B
abbrev sameHints : OpHints := [(13, 21, .bool false), (13, 29, .bool false), (13, 38, .bool false), (13, 47, .bool false), (18, 9, .bool true), (29, 14, .op mulRule), (30, 12, .op mulRule)]
abbrev slW : List Nat := [0, 3, 4, 5, 7]
abbrev vsW (n c : Nat) (i : Int) : List Value := [pSl n c, pK 1, pK 2, .int .i64 i, .bool true]
abbrev liveW (n c : Nat) (i : Int) : List (Nat × Value) := [(0, pSl n c), (3, pK 1), (4, pK 2), (5, .int .i64 i), (7, .bool true)]
set_option maxRecDepth 100000 in
/-- The two are held against one another. -/
theorem m_same (cs : List Value) (n c : Nat) (i t : Int) (A B C D : Wy) (f : Fr) :
    roundOutH slM [0, 1, 2] ((runHR Tryz.prog 0 (mpH sameHints) 200).1 3 sameM (canonF 78 (liveW n c i) f) (hpOf [viewO cs, mO (mC t A B), rO (rC t C D)])) =
    some (.normal, vsM n c i, 78, (17, 131070, 131064), [viewO cs, mO (mC t A B), rO (rC t C D)], sameP t B D ++ sameP t A C) := by kernel_rfl
abbrev lost (X : Wy) : Wy := ⟨X.p, X.b, X.w, X.l + 1, X.s, X.f⟩
theorem m_full (cs : List Value) (n c : Nat) (i k x y z t : Int) (o : Bool) (A B : Wy) (f : Fr) :
    roundOutH slW [0, 1, 2] ((runHR Tryz.prog 0 (mpH (goHints k o x y z false true ++ [(9, 18, .bool true), (10, 13, .bool true)])) 200).1 3 actM (canonF 78 (liveM n c i) f) (hpOf [viewO cs, mO (mC t A B), rO (rC t A B)])) =
    some (.normal, vsW n c i, 78, (4, 15, 8), [viewO cs, mO (mC t A B), rO (rC t A B)],
      goP cs n i k o x y z ++ ([(k == 0) = false, (k == 1) = true, decide ((sel o A B).l ≥ most) = true, decide ((sel o A B).l ≥ most) = true])) := by
  cases o <;> kernel_rfl
theorem m_lose (cs : List Value) (n c : Nat) (i k x y z t : Int) (o : Bool) (A B : Wy) (f : Fr) :
    roundOutH slW [0, 1, 2] ((runHR Tryz.prog 0 (mpH (goHints k o x y z false true ++ [(9, 18, .bool false), (10, 13, .bool false), (9, 23, .int ((sel o A B).l + 1)), (10, 19, .int ((sel o A B).l + 1))])) 200).1 3 actM (canonF 78 (liveM n c i) f) (hpOf [viewO cs, mO (mC t A B), rO (rC t A B)])) =
    some (.normal, vsW n c i, 78, (4, 15, 14), [viewO cs, mO (mC t (putA o A (lost A)) (putB o B (lost B))), rO (rC t (putA o A (lost A)) (putB o B (lost B)))],
      goP cs n i k o x y z ++ ([(k == 0) = false, (k == 1) = true, decide ((sel o A B).l ≥ most) = false, W64 ((sel o A B).l + 1) = (sel o A B).l + 1, decide ((sel o A B).l ≥ most) = false, W64 ((sel o A B).l + 1) = (sel o A B).l + 1])) := by
  cases o <;> kernel_rfl

/-! ### a packet -/

def argP (x y : Int) (a1 a2 a3 a4 : Bool) : List Prop :=
  (decide (x < 0) = a1) :: bif a1 then [] else (decide (x > much) = a2) :: bif a2 then [] else (decide (y < 0) = a3) :: bif a3 then [] else [decide (y > much) = a4]
abbrev argHints (a1 a2 a3 a4 : Bool) : OpHints := [(7, 17, .bool a1), (7, 20, .bool a2), (7, 24, .bool a3), (7, 28, .bool a4), (8, 11, .bool a1), (8, 14, .bool a2), (8, 18, .bool a3), (8, 22, .bool a4)]
theorem m_arg (cs : List Value) (n c : Nat) (i k x y z t : Int) (o a1 a2 a3 : Bool) (A B : Wy) (f : Fr) :
    roundOutH slW [0, 1, 2] ((runHR Tryz.prog 0 (mpH (goHints k o x y z true false ++ argHints a1 a2 a3 true)) 200).1 3 actM (canonF 78 (liveM n c i) f) (hpOf [viewO cs, mO (mC t A B), rO (rC t A B)])) =
    some (.normal, vsW n c i, 78, (4, 9, 8), [viewO cs, mO (mC t A B), rO (rC t A B)],
      goP cs n i k o x y z ++ ([(k == 0) = true] ++ (argP x y a1 a2 a3 true ++ (argP x y a1 a2 a3 true)))) := by
  cases a1
  · cases a2
    · cases a3 <;> kernel_rfl
    · kernel_rfl
  · kernel_rfl
def fullP (X : Wy) (x y : Int) (f1 f2 f3 : Bool) : List Prop :=
  [W64 (X.p + 1) = X.p + 1, W64 (X.b + x) = X.b + x, W64 (X.w + y) = X.w + y] ++ ((decide (X.p + 1 > most) = f1) :: bif f1 then [] else (decide (X.b + x > most) = f2) :: bif f2 then [] else [decide (X.w + y > most) = f3])
def fullR (X : Wy) (x y : Int) (f1 f2 f3 : Bool) : List Prop :=
  (decide (X.p ≥ most) = f1) :: bif f1 then [] else [W64 (most - X.b) = most - X.b, decide (x > most - X.b) = f2] ++ bif f2 then [] else [W64 (most - X.w) = most - X.w, decide (y > most - X.w) = f3]
abbrev addHints (X : Wy) (x y : Int) (f1 f2 f3 : Bool) : OpHints :=
  [(7, 42, .int (X.p + 1)), (7, 50, .int (X.b + x)), (7, 58, .int (X.w + y)), (7, 65, .bool f1), (7, 71, .bool f2), (7, 78, .bool f3), (7, 85, .op (diffRule true)), (7, 97, .int (X.s + x)),
   (8, 31, .bool f1), (8, 38, .int (most - X.b)), (8, 39, .bool f2), (8, 47, .int (most - X.w)), (8, 48, .bool f3), (8, 55, .int (X.p + 1)), (8, 64, .int (X.b + x)), (8, 73, .int (X.w + y)), (8, 82, .int (X.s + x))]
theorem m_much (cs : List Value) (n c : Nat) (i k x y z t : Int) (o f1 f2 : Bool) (A B : Wy) (f : Fr) :
    roundOutH slW [0, 1, 2] ((runHR Tryz.prog 0 (mpH (goHints k o x y z true false ++ (argHints false false false false ++ addHints (sel o A B) x y f1 f2 true))) 200).1 3 actM (canonF 78 (liveM n c i) f) (hpOf [viewO cs, mO (mC t A B), rO (rC t A B)])) =
    some (.normal, vsW n c i, 78, (5, 31, 24), [viewO cs, mO (mC t A B), rO (rC t A B)],
      goP cs n i k o x y z ++ ([(k == 0) = true] ++ (argP x y false false false false ++ (fullP (sel o A B) x y f1 f2 true ++ (argP x y false false false false ++ (fullR (sel o A B) x y f1 f2 true)))))) := by
  cases f1
  · cases f2 <;> cases o <;> kernel_rfl
  · cases o <;> kernel_rfl
abbrev more (X : Wy) (x y : Int) : Wy := ⟨X.p + 1, X.b + x, X.w + y, X.l, X.s + x, X.f⟩
abbrev waysL (A B : Wy) : List Value := [.int .i64 A.p, .int .i64 A.b, .int .i64 A.w, .int .i64 A.l, .int .i64 B.p, .int .i64 B.b, .int .i64 B.w, .int .i64 B.l]
theorem m_add (cs : List Value) (n c : Nat) (i k x y z t : Int) (o : Bool) (A B : Wy) (f : Fr) :
    roundOutH slW [0, 1, 2] ((runHR Tryz.prog 0 (mpH (goHints k o x y z true false ++ (argHints false false false false ++ addHints (sel o A B) x y false false false))) 200).1 3 actM (canonF 78 (liveM n c i) f) (hpOf [viewO cs, mO (mC t A B), rO (rC t A B)])) =
    some (.normal, vsW n c i, 78, (5, 31, 30), [viewO cs, mO (mC t (putA o A (more A x y)) (putB o B (more B x y))), rO (rC t (putA o A (more A x y)) (putB o B (more B x y)))],
      goP cs n i k o x y z ++ ([(k == 0) = true] ++ (argP x y false false false false ++ (fullP (sel o A B) x y false false false ++ ([twoEq Tryz.prog 8 49 (.agg ⟨waysL (putA o A (more A x y)) (putB o B (more B x y))⟩) (.agg ⟨waysL A B⟩) = some false, W64 ((sel o A B).s + x) = (sel o A B).s + x] ++
        (argP x y false false false false ++ (fullR (sel o A B) x y false false false ++ ([W64 ((sel o A B).p + 1) = (sel o A B).p + 1, W64 ((sel o A B).b + x) = (sel o A B).b + x, W64 ((sel o A B).w + y) = (sel o A B).w + y, W64 ((sel o A B).s + x) = (sel o A B).s + x])))))))) := by
  cases o <;> kernel_rfl

/-! ### the clock -/

def lateP (z t : Int) (c1 c2 : Bool) : List Prop := (decide (z < t) = c1) :: bif c1 then [] else [decide (z > much) = c2]
abbrev clkHints (z t : Int) (c1 c2 c3 c4 : Bool) : OpHints := [(11, 16, .bool c1), (11, 19, .bool c2), (11, 27, .bool c3), (12, 10, .bool c1), (12, 13, .bool c2), (12, 20, .bool c4),
  (11, 38, .op mulRule), (11, 44, .int (z - t)), (12, 29, .int (z - t)), (12, 39, .int (z - t)), (27, 16, .op mulRule), (27, 19, .op quoRule)]
theorem m_late (cs : List Value) (n c : Nat) (i k x y z t : Int) (o c1 : Bool) (A B : Wy) (f : Fr) :
    roundOutH slW [0, 1, 2] ((runHR Tryz.prog 0 (mpH (goHints k o x y z false false ++ clkHints z t c1 true false false)) 200).1 3 actM (canonF 78 (liveM n c i) f) (hpOf [viewO cs, mO (mC t A B), rO (rC t A B)])) =
    some (.normal, vsW n c i, 78, (4, 15, 8), [viewO cs, mO (mC t A B), rO (rC t A B)],
      goP cs n i k o x y z ++ ([(k == 0) = false, (k == 1) = false] ++ (lateP z t c1 true ++ lateP z t c1 true))) := by
  cases c1 <;> kernel_rfl
theorem m_now (cs : List Value) (n c : Nat) (i k x y z t : Int) (o : Bool) (A B : Wy) (f : Fr) :
    roundOutH slW [0, 1, 2] ((runHR Tryz.prog 0 (mpH (goHints k o x y z false false ++ clkHints z t false false true false)) 200).1 3 actM (canonF 78 (liveM n c i) f) (hpOf [viewO cs, mO (mC t A B), rO (rC t A B)])) =
    some (.normal, vsW n c i, 78, (4, 15, 8), [viewO cs, mO (mC t A B), rO (rC t A B)],
      goP cs n i k o x y z ++ ([(k == 0) = false, (k == 1) = false] ++ (lateP z t false false ++ ([(z == t) = true] ++ (lateP z t false false ++ [decide (z > t) = false]))))) := by kernel_rfl
abbrev rateM (X : Wy) (d : Int) : Nat := ratF (valF .mul (fI X.s) fK) (fI d)
abbrev rateR (X : Wy) (d : Int) : Nat := valF .quo (valF .mul (fI X.s) fK) (fI d)
abbrev wayM (X : Wy) (d : Int) : Wy := ⟨X.p, X.b, X.w, X.l, 0, meanF X.f (rateM X d) (fI 8)⟩
abbrev wayR (X : Wy) (d : Int) : Wy := ⟨X.p, X.b, X.w, X.l, 0, meanF X.f (rateR X d) (fI 8)⟩
def moveP (X : Wy) (z t : Int) : List Prop := [(floatBits .mul .f64 (fI X.s) fK).isSome = true, W64 (z - t) = z - t]
def smoothP (X : Wy) (z t : Int) : List Prop := [W64 (z - t) = z - t, (floatBits .mul .f64 (fI X.s) fK).isSome = true, (floatBits .quo .f64 (valF .mul (fI X.s) fK) (fI (z - t))).isSome = true]
set_option maxRecDepth 100000 in
theorem m_clock (cs : List Value) (n c : Nat) (i k x y z t : Int) (o : Bool) (A B : Wy) (f : Fr) :
    roundOutH slW [0, 1, 2] ((runHR Tryz.prog 0 (mpH (goHints k o x y z false false ++ clkHints z t false false false true)) 200).1 3 actM (canonF 78 (liveM n c i) f) (hpOf [viewO cs, mO (mC t A B), rO (rC t A B)])) =
    some (.normal, vsW n c i, 78, (4, 15, 14), [viewO cs, mO (mC z (wayM A (z - t)) (wayM B (z - t))), rO (rC z (wayR A (z - t)) (wayR B (z - t)))],
      goP cs n i k o x y z ++ ([(k == 0) = false, (k == 1) = false] ++ (lateP z t false false ++ ([(z == t) = false] ++ (moveP A z t ++ (moveP B z t ++ (lateP z t false false ++ ([decide (z > t) = true] ++ (smoothP A z t ++ smoothP B z t))))))))) := by kernel_rfl
end Go.Proofs.YthidmnghdoipiaaGreatDoor
