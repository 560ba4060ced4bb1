/- Link: closed facts, C. -/
import Derived.Test.YtdnfnnbkbcfnkaaGreatRows
import Derived.SizedLaws
import Derived.JoinedOf
namespace Go.Proofs.YtdnfnnbkbcfnkaaGreat
open Go
theorem fact_10 : ((Rows.linkNilRow.unfollowed == Tryz.prog.unfollowed 3)) = true := by kernel_rfl
end Go.Proofs.YtdnfnnbkbcfnkaaGreat
