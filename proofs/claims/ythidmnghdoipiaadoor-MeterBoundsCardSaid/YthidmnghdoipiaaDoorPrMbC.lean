/- Meter: loss and gain lie where they must: behind the loop. -/
import Derived.Test.YthidmnghdoipiaaDoorPrMbB
namespace Go.Proofs.YthidmnghdoipiaaDoor
open Go Go.RowKit Go.Ev
abbrev tailHints (X : Wy) (nl b0 c0 : Bool) : OpHints := [(8, 20, .int (X.l + X.p)), (9, 17, .int (X.b - X.w)), (3, 50, .bool nl), (3, 55, .int (X.p + X.l)), (3, 56, .bool nl), (3, 60, .bool false), (3, 64, .bool false),
  (3, 68, .bool (b0 && c0)), (3, 71, .bool b0), (3, 75, .bool c0), (3, 80, .bool false)]
abbrev oneF : Nat := 4607182418800017408
abbrev lossV (X : Wy) : Nat := ratF (fI X.l) (fI (X.l + X.p))
abbrev gainV (X : Wy) : Nat := ratF (fI (X.b - X.w)) (fI X.b)
def tailP (X : Wy) (nl b0 c0 : Bool) : List Prop :=
  [W64 (X.l + X.p) = X.l + X.p, W64 (X.b - X.w) = X.b - X.w, nanB (lossV X) = nl, W64 (X.p + X.l) = X.p + X.l, (X.p + X.l == 0) = nl, (cmpF (lossV X) 0 == some .lt) = false, (cmpF (lossV X) oneF == some .gt) = false, nanB (gainV X) = (b0 && c0), (X.b == 0) = b0] ++
    ((bif b0 then [(X.w == 0) = c0] else []) ++ [(cmpF (gainV X) oneF == some .gt) = false])
theorem m_tail (o0 : Option AObj) (q nl b0 c0 : Bool) (A B : Wy) (f : Fr) :
    roundOutH [4] [0, 1] ((runHR Tryd.prog 0 (mpH (tailHints (sel q A B) nl b0 c0)) 200).1 3 tailM (canonF 86 [(1, .bool q), (5, pK 1)] f) (hpOf [o0, mO (mC 0 A B)])) =
    some (.ret, [.bool true], 86, (8, 254, 252), [o0, mO (mC 0 A B)], tailP (sel q A B) nl b0 c0) := by
  cases nl
  · cases b0
    · cases q <;> kernel_rfl
    · cases c0 <;> cases q <;> kernel_rfl
  · cases b0
    · cases q <;> kernel_rfl
    · cases c0 <;> cases q <;> kernel_rfl
end Go.Proofs.YthidmnghdoipiaaDoor
