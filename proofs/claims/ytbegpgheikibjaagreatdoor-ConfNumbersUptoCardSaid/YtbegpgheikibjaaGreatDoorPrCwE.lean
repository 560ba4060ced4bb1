/- options: the call known(), as the kernel runs it. -/
import Derived.Test.YtbegpgheikibjaaGreatDoorProg
import Derived.Test.YtbegpgheikibjaaGreatDoorKit6
import Derived.Test.YtbegpgheikibjaaGreatDoorKit4
namespace Go.Proofs.Cw
open Go Go.RowKit Go.Ev
abbrev errV (a : Addr) : Value := .iface 226 (.pointer (some a))
abbrev tyV : Value := .iface 149 (.agg #[.pointer (some ⟨10, 55, none⟩)])
/-- The variables that known reads: errLine, errorType. -/
def hp0 : AH := { (⟨.nil, 12, 0, 0⟩ : AH) with t := ((T.nil : T AObj).set 24 0 (some (.cells [errV ⟨11, 0, none⟩] 55 1 0 false false))).set 24 1 (some (.cells [tyV] 106 1 0 false false)) }
set_option maxRecDepth 100000 in
theorem known_evals : evalsFast Tryz.prog 11 hp0 400 16 [] isTrue = true := by kernel_rfl
end Go.Proofs.Cw
