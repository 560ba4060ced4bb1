/- Link: closed facts, A. -/
import Derived.Test.YtdnfnnbkbcfnkaaGreatRows
import Derived.SizedLaws
import Derived.JoinedOf
namespace Go.Proofs.YtdnfnnbkbcfnkaaGreat
open Go
theorem fact_0 : (Rows.linkNilRow.wf (OpenSpec.ofChange Rows.linkNilSpec)) = true := by kernel_rfl
theorem fact_1 : (laidOutB Tryz.prog) = true := by kernel_rfl
theorem fact_2 : (mapsRowed Tryz.prog) = true := by kernel_rfl
theorem fact_3 : (Tryz.f3.params.all (Tryz.prog.readableRec ·)) = true := by kernel_rfl
theorem fact_4 : (namedTie Tryz.prog Rows.linkNilRow.named Rows.linkNilSpec.vars) = true := by kernel_rfl
theorem fact_5 : ((Rows.linkNilRow.stops == [])) = true := by kernel_rfl
theorem fact_6 : ((Tryz.prog.stops == [])) = true := by kernel_rfl
theorem fact_7 : ((Rows.linkNilRow.knobs == [])) = true := by kernel_rfl
theorem fact_8 : ((Tryz.prog.stopKnobs == [])) = true := by kernel_rfl
theorem fact_13 : ((Rows.linkNilRow.maps == (Tryz.f3.params.toList ++ Rows.linkNilSpec.plain.varTypes Tryz.prog).any (Tryz.prog.mapsRec ·))) = true := by kernel_rfl
theorem fact_14 : ((Rows.linkNilRow.ifaces == (Tryz.f3.params.toList ++ Rows.linkNilSpec.plain.varTypes Tryz.prog).any (Tryz.prog.ifacesRec ·))) = true := by kernel_rfl
theorem fact_15 : ((Rows.linkNilRow.mapsOut == Tryz.prog.mapsAmong Tryz.f3.resultTypes.toList)) = true := by kernel_rfl
theorem fact_16 : ((Rows.linkNilRow.loops == (Tryz.f3.params.toList ++ Rows.linkNilSpec.plain.varTypes Tryz.prog).any (Tryz.prog.loopsFrom ·))) = true := by kernel_rfl
theorem fact_17 : ((Rows.linkNilRow.wideKeys == (Tryz.f3.params.toList ++ Rows.linkNilSpec.plain.varTypes Tryz.prog ++ Tryz.f3.resultTypes.toList).any (Tryz.prog.wideKeysFrom ·))) = true := by kernel_rfl
theorem fact_18 : (Rows.linkNilSpec.vars.all (Tryz.prog.varReadable ·)) = true := by kernel_rfl
theorem fact_19 : (Tryz.f3.resultTypes.all (fun t => Tryz.prog.readableRec t && decide (t < Tryz.prog.types.size))) = true := by kernel_rfl
theorem fact_20 : ((Rows.linkNilRow.ifacesOut == Tryz.f3.resultTypes.toList.any (Tryz.prog.ifacesRec ·))) = true := by kernel_rfl
theorem fact_21 : ((Rows.linkNilRow.loopsOut == Tryz.f3.resultTypes.toList.any (Tryz.prog.loopsFrom ·))) = true := by kernel_rfl
theorem fact_22 : ((Rows.linkNilRow.plainKeys == Tryz.prog.plainKeys)) = true := by kernel_rfl
theorem fact_23 : (Rows.linkNilRow.shortTexts.isNone) = true := by kernel_rfl
theorem fact_24 : (Tryz.prog.stopsHeard) = true := by kernel_rfl
theorem fact_25 : (Tryz.prog.mayEnter) = true := by kernel_rfl
theorem fact_26 : ((Rows.linkNilRow.lifted == Tryz.prog.liftsFinal)) = true := by kernel_rfl
theorem fact_27 : ((Tryz.prog.make == some Rows.linkNilRow.make)) = true := by kernel_rfl
theorem fact_28 : ((Rows.linkNilRow.kinds == (if Rows.linkNilRow.domain.isEmpty then [] else Tryz.f3.params.toList.map fun t => match Tryz.prog.underlying t with | some (.int k) => some k | _ => none))) = true := by kernel_rfl
theorem fact_29 : ((Rows.linkNilRow.pinned == Rows.linkNilRow.pinnedBy)) = true := by kernel_rfl
theorem fact_30 : ((Rows.linkNilRow.veiled == (Tryz.f3.params.toList ++ Rows.linkNilSpec.plain.varTypes Tryz.prog ++ Tryz.f3.resultTypes.toList).any (Tryz.prog.veiledRec ·))) = true := by kernel_rfl
theorem fact_31 : (Rows.linkNilRow.veiledFits Tryz.prog Tryz.f3.params.toList (Tryz.f3.params.toList ++ Rows.linkNilSpec.plain.varTypes Tryz.prog ++ Tryz.f3.resultTypes.toList)) = true := by kernel_rfl
end Go.Proofs.YtdnfnnbkbcfnkaaGreat
