/- SecretReads: for every input the law returns true, and each argument reads behind the call as it read before; condition: the listed package variables are laid as the row says. -/
import Derived.Test.YtnadimjglkodkaaGreatDoorRows
import Derived.Test.YtnadimjglkodkaaGreatDoorTie
import Derived.Test.YtnadimjglkodkaaGreatDoorCards
import Derived.Deep.DeepHandedRow
import Derived.LaidMore
import Derived.LaidHandle
import Derived.OpenShut
import Derived.Lay
import Derived.LaidLaws
import Derived.Stop.Joined
import Derived.SevenTiedAt
import Derived.Test.YtnadimjglkodkaaGreatDoorPrTwL
import Derived.Test.YtnadimjglkodkaaGreatDoorPrTwV
namespace Go.Proofs.YtnadimjglkodkaaGreatDoor
open Go Go.ChangeShapes Go.WideShapes Go.ChangeAt Go.WideMaps Go.WideElems Go.RowKit Go.Ev Go.Proofs.Sa Go.Proofs.Sr

theorem laidOut_here : laidOutB Tryz.prog = true := by kernel_rfl
theorem own_here : ownKnob Tryz.prog.godebug = Option.none := by kernel_rfl
/-- The listed variables are as they must be. -/
theorem env_here {W : World} (hl : laidMetH Tryz.prog laidL W) (hs : W.ShapedOpen Tryz.prog) : ∃ t pv, Env W t pv := by
  obtain ⟨a, t, fz, h1, _⟩ := sent_here hl errLine_mem (g := 0) (by kernel_rfl) (by kernel_rfl)
  exact ⟨226, .pointer (some a), consts_here hl hs, by simp only [World.cell?, h1]; rfl, start_here hl hs⟩
/-- A world that meets the condition: the plain data laid, the handle's cell put in. -/
noncomputable def laidWorld (os : Os) : World :=
  let w0 := World.laidAll Tryz.prog os (Rows.secretReadsRow.laid.filter fun x => x.2.handleName?.isNone)
  { w0 with heap := w0.heap.modify 1 fun
      | .cells _ t fz => .cells #[tyV] t fz
      | o => o }
set_option maxRecDepth 100000 in
theorem laid_met (os : Os) (args : Array Value) : laidMetH Tryz.prog Rows.secretReadsRow.laid ((laidWorld os).forCall (fun _ _ => 0) ⟨#[], args, []⟩).memory :=
  laidMetH_of_parts (laidMet_of_run' 8 (by kernel_rfl) (by kernel_rfl)) (by kernel_rfl)
set_option maxRecDepth 100000 in
theorem laid_shaped (os : Os) : ((laidWorld os).forCall (fun _ _ => 0) ⟨#[], #[.string ⟨#[]⟩], []⟩).Shaped Tryz.prog := World.shaped_of_ZipB (by kernel_rfl) (by kernel_rfl)

set_option maxRecDepth 100000 in
theorem secretReads_lifted (os : Os) (started : os.Started) (H : Type) (enc : TypeId × Value → H) :
    ReturnsInHanded {} Tryz.checked os 5 .any (fun w args => (Rows.secretReadsSpec.pre enc Tryz.prog Tryz.f5 [] false w args ∧ laidMetH Tryz.prog Rows.secretReadsRow.laid w) ∧ sizedMet enc Tryz.prog Tryz.f5 (OpenSpec.ofChange Rows.secretReadsSpec) false w args)
      (Rows.secretReadsSpec.post enc Tryz.prog Tryz.f5 false true false false) := by
  refine returnsInHanded_of_row (C := Tryz.checked) (s := OpenSpec.ofChange Rows.secretReadsSpec) (F := fun _ _ _ => 0) (conds := []) (apart := false) (laid := Rows.secretReadsRow.laid) own_here started (by kernel_rfl) Tryz.func5
    (ChangeSpec.witness_shaped (enc := enc) (C := Tryz.checked) (os := os) (X := fun w _ => laidMetH Tryz.prog Rows.secretReadsRow.laid w) false (laidWorld os) #[.string ⟨#[]⟩] 8 (World.laidAll_os _ _ _) (laid_shaped os) (by kernel_rfl) (by kernel_rfl) (by kernel_rfl) (laid_met os _)) ?_
  intro W base args ds gs before hval0 hW _ _ _ hL hS _
  have hval : ∀ (j : Nat) t v, Tryz.f5.params[j]? = some t → args[j]? = some v → Value.okWide Tryz.prog W .any base t v := hval0
  have hW' := hW
  obtain ⟨p, q, hA0, hV, rfl, hfz, hnd⟩ := hW
  have hA : DataW.TrodAll enc Tryz.prog W 0 (fun _ => true) true Tryz.f5.params.toList args.toList ds p := hA0
  rw [Tryz.params5] at hA hval
  obtain ⟨v0, vs, d0, ds', p0, q0, hargs, rfl, rfl, h0, r0⟩ := trodAll_cons hA
  obtain ⟨rfl, rfl, rfl⟩ := trodAll_nil r0
  obtain rfl : args = #[v0] := by cases args; simp_all
  obtain ⟨rfl, rfl⟩ := trodVars_none hV
  obtain ⟨a, rfl, rfl, rfl, hs_a⟩ := Go.ChangeMaps.open_string Tryz.underlying9 (hval 0 9 v0 rfl rfl) h0
  have hL' : laidMetH Tryz.prog laidL W := hL
  obtain ⟨t, pv, hE⟩ := env_here hL' hS
  refine (reads_law a t pv W hE (awake_calls hL' hS)).mono ?_
  rintro e W' ⟨rfl, hgr⟩
  exact ⟨_, rfl, post_true laidOut_here (by kernel_rfl) rfl rfl Tryz.underlying4 ⟨rfl, rfl, rfl⟩ hW' hgr⟩

theorem secretReads_holds : Rows.SecretReadsSaid :=
  OpenClaim.holds_of_wide 5 Tryz.f5 rfl rfl rfl rfl rfl rfl rfl ⟨rfl, rfl, rfl, rfl, rfl⟩ rfl rfl rfl rfl rfl (by kernel_rfl) Tryz.func5 (by kernel_rfl)
    (of_decide_eq_true (by kernel_rfl)) (by unfold Func.isWrapper; first | (rw [if_pos (by decide +kernel)]; kernel_rfl) | (rw [if_neg (by decide +kernel)]; exact ⟨rfl, rfl⟩))
    (fun os started H enc _ => secretReads_lifted os started H enc)

theorem secretReads_card : Rows.SecretReadsCardSaid :=
  Claim7.holds_tied_plain_at .later [] _ _ _ _ secretReads_holds (fun _ h => by cases h) (by kernel_rfl) (fun _ h => by cases h) secretReads_row_tie rfl ⟨rfl, rfl⟩ (by kernel_rfl) rfl
    (fun f fn hf hfn => by
      obtain rfl : f = 5 := Option.some.inj ((show Tryz.prog.funcNamed "tether/tetherlaw06.SecretReads" = some 5 by kernel_rfl).symm.trans hf) |>.symm
      obtain rfl : fn = Tryz.f5 := (Option.some.inj (Tryz.func5.symm.trans hfn)).symm
      exact ⟨by kernel_rfl, fun j t ht => by
        rw [Tryz.params5] at ht
        have hm : t ∈ [9] := by simpa using Array.mem_of_getElem? ht
        have hall : ([9].all fun u => !Tryz.prog.wantsStandIn u) = true := by kernel_rfl
        exact (show Tryz.prog.wantsStandIn t = false by simpa using List.all_eq_true.1 hall t hm)⟩)
    (by kernel_rfl)
#print axioms secretReads_card
end Go.Proofs.YtnadimjglkodkaaGreatDoor
