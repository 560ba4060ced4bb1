/- Link: closed facts, B. -/
import Derived.Test.YtdnfnnbkbcfnkaaGreatRows
import Derived.SizedLaws
import Derived.JoinedOf
namespace Go.Proofs.YtdnfnnbkbcfnkaaGreat
open Go
theorem fact_9 : ((Rows.linkNilRow.inPlace == Tryz.prog.inPlace 3)) = true := by kernel_rfl
end Go.Proofs.YtdnfnnbkbcfnkaaGreat
