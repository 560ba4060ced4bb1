/- Link: closed facts, E. -/
import Derived.Test.YtdnfnnbkbcfnkaaGreatRows
import Derived.SizedLaws
import Derived.JoinedOf
namespace Go.Proofs.YtdnfnnbkbcfnkaaGreat
open Go
theorem fact_12 : ((Rows.linkNilRow.named == Tryz.prog.varsNamed 3)) = true := by kernel_rfl
end Go.Proofs.YtdnfnnbkbcfnkaaGreat
