/- Link: closed facts, together. -/
import Derived.Test.YtdnfnnbkbcfnkaaGreatPrLkFA
import Derived.Test.YtdnfnnbkbcfnkaaGreatPrLkFB
import Derived.Test.YtdnfnnbkbcfnkaaGreatPrLkFC
import Derived.Test.YtdnfnnbkbcfnkaaGreatPrLkFD
import Derived.Test.YtdnfnnbkbcfnkaaGreatPrLkFE
namespace Go.Proofs.YtdnfnnbkbcfnkaaGreat
open Go
theorem and2 {a b : Bool} (h : a = true) (h1 : b = true) : (a && b) = true := by rw [h, h1]; rfl
set_option maxRecDepth 100000 in
theorem fact_joined : joinedFacts Tryz.prog 3 Tryz.f3 Rows.linkNilSpec Rows.linkNilRow = true :=
  (and2 (and2 (and2 (and2 (and2 (and2 (and2 (and2 (and2 (and2 (and2 (and2 (and2 (and2 (and2 (and2 (and2 (and2 (and2 (and2 (and2 (and2 (and2 (and2 (and2 (and2 (and2 (and2 (and2 (and2 (and2 fact_0 fact_1) fact_2) fact_3) fact_4) fact_5) fact_6) fact_7) fact_8) fact_9) fact_10) fact_11) fact_12) fact_13) fact_14) fact_15) fact_16) fact_17) fact_18) fact_19) fact_20) fact_21) fact_22) fact_23) fact_24) fact_25) fact_26) fact_27) fact_28) fact_29) fact_30) fact_31)
end Go.Proofs.YtdnfnnbkbcfnkaaGreat
