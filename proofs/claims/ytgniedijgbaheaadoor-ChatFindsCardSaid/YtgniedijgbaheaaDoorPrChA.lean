/- Chat: a text is found as soon as it has come: the calls. -/
import Derived.Test.YtgniedijgbaheaaDoorChecked
import Derived.Test.YtgniedijgbaheaaDoorKit4
import Derived.Test.YtgniedijgbaheaaDoorKit6
namespace Go.Proofs.YtgniedijgbaheaaDoor
open Go Go.RowKit Go.Ev
theorem zerosFlat_here : zerosFlat Tryd.prog = true := by kernel_rfl
theorem mixed_here : Tryd.prog.follows .mixedOrders = true := by kernel_rfl
abbrev pSl (n c : Nat) : Value := .slice (some ⟨0, 0, none⟩) n c
theorem known_run : plainOut 0 ((runHR Tryd.prog 0 (plainHints [] []) 300).2 8 [] (bare 0)) = some (.bool true, []) := by kernel_rfl
def knownFn : List Value → Option Value
  | [] => some (.bool true)
  | _ => none
theorem known_tup (args : List Value) (v : Value) (e : knownFn args = some v) (h : AH) : CTup Tryd.prog 0 8 args h (.ret v) h := by
  unfold knownFn at e
  split at e
  · cases e
    exact plain_tup zerosFlat_here mixed_here (plainHints_ok Sums.Ok.nil) known_run (fun p hp => by cases hp) rfl h
  · cases e
def KN : Sums := [(8, knownFn)]
theorem KN_ok : Sums.Ok Tryd.prog 0 KN := Sums.Ok.cons known_tup .nil
noncomputable abbrev chH (ops : OpHints) : Hints := rowHints (P := Tryd.prog) ops [(8, knownFn)] [] []
theorem chH_ok (ops : OpHints) : (chH ops).Ok Tryd.prog 0 := rowHints_ok KN_ok .nil

/-! ### the pieces -/

noncomputable def bodyC : Code := (Tryd.f3.body).getD .skip
noncomputable def preC : Code := match splitSeq 7 bodyC with
  | some (p, _) => p
  | none => .skip
noncomputable def restC : Code := match splitSeq 7 bodyC with
  | some (_, r) => r
  | none => .skip
noncomputable def loopC : Code := match restC with
  | .seq (.seq _ (.block _ (.loop b))) _ => b
  | _ => .skip
noncomputable def initC : Code := match restC with
  | .seq (.seq a _) _ => a
  | _ => .skip
noncomputable def tailC : Code := match restC with
  | .seq _ t => t
  | _ => .skip
theorem splitC : splitSeq 7 bodyC = some (preC, restC) := by kernel_rfl
theorem restC_eq : restC = .seq (.seq initC (.block 0 (.loop loopC))) tailC := by kernel_rfl
theorem f3_at : Tryd.prog.funcs[3]? = some Tryd.f3 := by kernel_rfl
theorem f3_body : Tryd.f3.body = some bodyC := by kernel_rfl
abbrev viewO (cs : List Value) : Option AObj := some (.cells cs 5 1 0 false false)
end Go.Proofs.YtgniedijgbaheaaDoor
