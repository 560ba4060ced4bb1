/- Meter: loss and gain lie where they must: the ways of a round. -/
import Derived.Test.YthidmnghdoipiaaDoorPrMbA
namespace Go.Proofs.YthidmnghdoipiaaDoor
open Go Go.RowKit Go.Ev
abbrev W64 (x : Int) : Int := IntKind.i64.wrap x
abbrev opL (k : Int) (o : Bool) (x y z : Int) : List Value := [.int .i64 k, .bool o, .int .i64 x, .int .i64 y, .int .i64 z]
abbrev goHints (k : Int) (o : Bool) (x y z : Int) (k0 : Bool) : OpHints :=
  [(3, 22, .op ixRule), (3, 23, .op (ldsRule (opL k o x y z))), (3, 26, .bool k0)]
abbrev at5 (i : Int) : Nat := 0 + i.toNat * 5
def goP (cs : List Value) (n : Nat) (i k : Int) (o : Bool) (x y z : Int) : List Prop := [0 ≤ i ∧ i < (n : Int), at5 i + 5 ≤ cs.length, takeL cs (at5 i) 5 = opL k o x y z]
abbrev fK : Nat := 4652007308841189376
abbrev fI (x : Int) : Nat := floatOfInt .f64 x
abbrev most : Int := 1152921504606846976
abbrev much : Int := 1099511627776
abbrev sel (o : Bool) (A B : Wy) : Wy := bif o then B else A
abbrev putA (o : Bool) (A X : Wy) : Wy := bif o then A else X
abbrev putB (o : Bool) (B X : Wy) : Wy := bif o then X else B
abbrev lost (X : Wy) : Wy := ⟨X.p, X.b, X.w, X.l + 1, X.s, X.f⟩
theorem m_full (cs : List Value) (n c : Nat) (i k x y z : Int) (q o : Bool) (A B : Wy) (f : Fr) :
    roundOutH slM [0, 1] ((runHR Tryd.prog 0 (mpH (goHints k o x y z false ++ [(6, 18, .bool true)])) 200).1 3 workM (canonF 86 (liveM n c q i) f) (hpOf [viewO cs, mO (mC 0 A B)])) =
    some (.normal, vsM n c q i, 86, (3, 7, 4), [viewO cs, mO (mC 0 A B)],
      goP cs n i k o x y z ++ ([(k == 0) = false, decide ((sel o A B).l ≥ most) = true])) := by
  cases o <;> kernel_rfl
theorem m_lose (cs : List Value) (n c : Nat) (i k x y z : Int) (q o : Bool) (A B : Wy) (f : Fr) :
    roundOutH slM [0, 1] ((runHR Tryd.prog 0 (mpH (goHints k o x y z false ++ [(6, 18, .bool false), (6, 23, .int ((sel o A B).l + 1))])) 200).1 3 workM (canonF 86 (liveM n c q i) f) (hpOf [viewO cs, mO (mC 0 A B)])) =
    some (.normal, vsM n c q i, 86, (3, 7, 6), [viewO cs, mO (mC 0 (putA o A (lost A)) (putB o B (lost B)))],
      goP cs n i k o x y z ++ ([(k == 0) = false, decide ((sel o A B).l ≥ most) = false, W64 ((sel o A B).l + 1) = (sel o A B).l + 1])) := by
  cases o <;> kernel_rfl

/-! ### a packet -/

def argP (x y : Int) (a1 a2 a3 a4 : Bool) : List Prop :=
  (decide (x < 0) = a1) :: bif a1 then [] else (decide (x > much) = a2) :: bif a2 then [] else (decide (y < 0) = a3) :: bif a3 then [] else [decide (y > much) = a4]
abbrev argHints (a1 a2 a3 a4 : Bool) : OpHints := [(5, 17, .bool a1), (5, 20, .bool a2), (5, 24, .bool a3), (5, 28, .bool a4)]
theorem m_arg (cs : List Value) (n c : Nat) (i k x y z : Int) (q o a1 a2 a3 : Bool) (A B : Wy) (f : Fr) :
    roundOutH slM [0, 1] ((runHR Tryd.prog 0 (mpH (goHints k o x y z true ++ argHints a1 a2 a3 true)) 200).1 3 workM (canonF 86 (liveM n c q i) f) (hpOf [viewO cs, mO (mC 0 A B)])) =
    some (.normal, vsM n c q i, 86, (3, 5, 4), [viewO cs, mO (mC 0 A B)],
      goP cs n i k o x y z ++ ([(k == 0) = true] ++ argP x y a1 a2 a3 true)) := by
  cases a1
  · cases a2
    · cases a3 <;> kernel_rfl
    · kernel_rfl
  · kernel_rfl
def fullP (X : Wy) (x y : Int) (f1 f2 f3 : Bool) : List Prop :=
  [W64 (X.p + 1) = X.p + 1, W64 (X.b + x) = X.b + x, W64 (X.w + y) = X.w + y] ++ ((decide (X.p + 1 > most) = f1) :: bif f1 then [] else (decide (X.b + x > most) = f2) :: bif f2 then [] else [decide (X.w + y > most) = f3])
abbrev addHints (X : Wy) (x y : Int) (f1 f2 f3 : Bool) : OpHints :=
  [(5, 42, .int (X.p + 1)), (5, 50, .int (X.b + x)), (5, 58, .int (X.w + y)), (5, 65, .bool f1), (5, 71, .bool f2), (5, 78, .bool f3), (5, 85, .op (diffRule true)), (5, 97, .int (X.s + x))]
theorem m_much (cs : List Value) (n c : Nat) (i k x y z : Int) (q o f1 f2 : Bool) (A B : Wy) (f : Fr) :
    roundOutH slM [0, 1] ((runHR Tryd.prog 0 (mpH (goHints k o x y z true ++ (argHints false false false false ++ addHints (sel o A B) x y f1 f2 true))) 200).1 3 workM (canonF 86 (liveM n c q i) f) (hpOf [viewO cs, mO (mC 0 A B)])) =
    some (.normal, vsM n c q i, 86, (4, 15, 12), [viewO cs, mO (mC 0 A B)],
      goP cs n i k o x y z ++ ([(k == 0) = true] ++ (argP x y false false false false ++ fullP (sel o A B) x y f1 f2 true))) := by
  cases f1
  · cases f2 <;> cases o <;> kernel_rfl
  · cases o <;> kernel_rfl
abbrev more (X : Wy) (x y : Int) : Wy := ⟨X.p + 1, X.b + x, X.w + y, X.l, X.s + x, X.f⟩
abbrev waysL (A B : Wy) : List Value := [.int .i64 A.p, .int .i64 A.b, .int .i64 A.w, .int .i64 A.l, .int .i64 B.p, .int .i64 B.b, .int .i64 B.w, .int .i64 B.l]
theorem m_add (cs : List Value) (n c : Nat) (i k x y z : Int) (q o : Bool) (A B : Wy) (f : Fr) :
    roundOutH slM [0, 1] ((runHR Tryd.prog 0 (mpH (goHints k o x y z true ++ (argHints false false false false ++ addHints (sel o A B) x y false false false))) 200).1 3 workM (canonF 86 (liveM n c q i) f) (hpOf [viewO cs, mO (mC 0 A B)])) =
    some (.normal, vsM n c q i, 86, (4, 15, 14), [viewO cs, mO (mC 0 (putA o A (more A x y)) (putB o B (more B x y)))],
      goP cs n i k o x y z ++ ([(k == 0) = true] ++ (argP x y false false false false ++ (fullP (sel o A B) x y false false false ++ ([twoEq Tryd.prog 8 40 (.agg ⟨waysL (putA o A (more A x y)) (putB o B (more B x y))⟩) (.agg ⟨waysL A B⟩) = some false, W64 ((sel o A B).s + x) = (sel o A B).s + x]))))) := by
  cases o <;> kernel_rfl

end Go.Proofs.YthidmnghdoipiaaDoor
