/- Link: closed facts, D. -/
import Derived.Test.YtdnfnnbkbcfnkaaGreatRows
import Derived.SizedLaws
import Derived.JoinedOf
namespace Go.Proofs.YtdnfnnbkbcfnkaaGreat
open Go
theorem fact_11 : ((Rows.linkNilRow.recurses == Tryz.prog.recurses 3)) = true := by kernel_rfl
end Go.Proofs.YtdnfnnbkbcfnkaaGreat
