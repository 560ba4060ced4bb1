/- SecretRemarks: for every input the law returns true, and each argument reads behind the call as it read before; condition: the listed package variables are laid as the row says. -/
import Derived.Test.YtnadimjglkodkaaDoorRows
import Derived.Test.YtnadimjglkodkaaDoorTie
import Derived.Test.YtnadimjglkodkaaDoorCards
import Derived.Deep.DeepHandedRow
import Derived.LaidMore
import Derived.LaidHandle
import Derived.OpenShut
import Derived.Lay
import Derived.LaidLaws
import Derived.Stop.Joined
import Derived.SevenTiedAt
import Derived.Test.YtnadimjglkodkaaDoorPrTdR
import Derived.Test.YtnadimjglkodkaaDoorPrTdV
namespace Go.Proofs.YtnadimjglkodkaaDoor
open Go Go.ChangeShapes Go.WideShapes Go.ChangeAt Go.WideMaps Go.WideElems Go.RowKit Go.Ev Go.Proofs.Sa Go.Proofs.Sr

theorem laidOut_here : laidOutB Tryd.prog = true := by kernel_rfl
theorem own_here : ownKnob Tryd.prog.godebug = Option.none := by kernel_rfl
/-- The listed variables are as they must be. -/
theorem env_here {W : World} (hl : laidMetH Tryd.prog laidL W) (hs : W.ShapedOpen Tryd.prog) : ∃ t pv, Env W t pv := by
  obtain ⟨a, t, fz, h1, _⟩ := sent_here hl errLine_mem (g := 0) (by kernel_rfl) (by kernel_rfl)
  exact ⟨208, .pointer (some a), consts_here hl hs, by simp only [World.cell?, h1]; rfl, start_here hl hs⟩
/-- A world that meets the condition: the plain data laid, the handle's cell put in. -/
noncomputable def laidWorld (os : Os) : World :=
  let w0 := World.laidAll Tryd.prog os (Rows.secretRemarksRow.laid.filter fun x => x.2.handleName?.isNone)
  { w0 with heap := w0.heap.modify 1 fun
      | .cells _ t fz => .cells #[tyV] t fz
      | o => o }
set_option maxRecDepth 100000 in
theorem laid_met (os : Os) (args : Array Value) : laidMetH Tryd.prog Rows.secretRemarksRow.laid ((laidWorld os).forCall (fun _ _ => 0) ⟨#[], args, []⟩).memory :=
  laidMetH_of_parts (laidMet_of_run' 8 (by kernel_rfl) (by kernel_rfl)) (by kernel_rfl)
set_option maxRecDepth 100000 in
theorem laid_shaped (os : Os) : ((laidWorld os).forCall (fun _ _ => 0) ⟨#[], #[.string ⟨#[]⟩, .slice none 0 0], []⟩).Shaped Tryd.prog := World.shaped_of_ZipB (by kernel_rfl) (by kernel_rfl)

set_option maxRecDepth 100000 in
theorem ints_came {W : World} {b0 : Nat} {H : Type} {enc : TypeId × Value → H} {v : Value} {d : DataW H} {ps : List MemPlace} (hval : Value.okWide Tryd.prog W .any b0 52 v) (hd : DataW.Trod enc Tryd.prog W 0 (fun _ => true) true 52 v d ps) :
    ∃ (ao : Option Addr) (n cap : Nat) (zs : List Int), v = .slice ao n cap ∧ Ints W ao n zs := by
  have h52 : Tryd.prog.underlying 52 = some (.slice 3) := by kernel_rfl
  have h3 : Tryd.prog.underlying 3 = some (.int .i64) := by kernel_rfl
  obtain ⟨a, n0, c0, rfl⟩ := okWide_slice h52 hval
  obtain ⟨fuel, hf⟩ := hd
  obtain ⟨ao, n, cap, zs, hcs, hT, _⟩ := ints_trod h52 h3 (by kernel_rfl) hf
  have hv : [Value.slice a n0 c0] = [Value.slice ao n cap] := hcs
  cases hv
  exact ⟨_, _, _, _, rfl, hT.here⟩
set_option maxRecDepth 100000 in
theorem secretRemarks_lifted (os : Os) (started : os.Started) (H : Type) (enc : TypeId × Value → H) :
    ReturnsInHanded {} Tryd.checked os 6 .any (fun w args => (Rows.secretRemarksSpec.pre enc Tryd.prog Tryd.f6 [] false w args ∧ laidMetH Tryd.prog Rows.secretRemarksRow.laid w) ∧ sizedMet enc Tryd.prog Tryd.f6 (OpenSpec.ofChange Rows.secretRemarksSpec) false w args)
      (Rows.secretRemarksSpec.post enc Tryd.prog Tryd.f6 false true false false) := by
  refine returnsInHanded_of_row (C := Tryd.checked) (s := OpenSpec.ofChange Rows.secretRemarksSpec) (F := fun _ _ _ => 0) (conds := []) (apart := false) (laid := Rows.secretRemarksRow.laid) own_here started (by kernel_rfl) Tryd.func6
    (ChangeSpec.witness_shaped (enc := enc) (C := Tryd.checked) (os := os) (X := fun w _ => laidMetH Tryd.prog Rows.secretRemarksRow.laid w) false (laidWorld os) #[.string ⟨#[]⟩, .slice none 0 0] 8 (World.laidAll_os _ _ _) (laid_shaped os) (by kernel_rfl) (by kernel_rfl) (by kernel_rfl) (laid_met os _)) ?_
  intro W base args ds gs before hval0 hW _ _ _ hL hS _
  have hval : ∀ (j : Nat) t v, Tryd.f6.params[j]? = some t → args[j]? = some v → Value.okWide Tryd.prog W .any base t v := hval0
  have hW' := hW
  obtain ⟨p, q, hA0, hV, rfl, hfz, hnd⟩ := hW
  have hA : DataW.TrodAll enc Tryd.prog W 0 (fun _ => true) true Tryd.f6.params.toList args.toList ds p := hA0
  rw [Tryd.params6] at hA hval
  obtain ⟨v0, vs, d0, ds', p0, q0, hargs, rfl, rfl, h0, r0⟩ := trodAll_cons hA
  obtain ⟨v1, vs', d1, ds'', p1, q1, rfl, rfl, rfl, h1, r1⟩ := trodAll_cons r0
  obtain ⟨rfl, rfl, rfl⟩ := trodAll_nil r1
  obtain rfl : args = #[v0, v1] := by cases args; simp_all
  obtain ⟨rfl, rfl⟩ := trodVars_none hV
  obtain ⟨a, rfl, rfl, rfl, hs_a⟩ := Go.ChangeMaps.open_string Tryd.underlying9 (hval 0 9 v0 rfl rfl) h0
  obtain ⟨wo, wn, wc, zs, rfl, hI⟩ := ints_came (hval 1 52 v1 rfl rfl) h1
  have hL' : laidMetH Tryd.prog laidL W := hL
  obtain ⟨t, pv, hE⟩ := env_here hL' hS
  refine (remarks_law a wo wn wc zs t pv W hE hI (awake_calls hL' hS)).mono ?_
  rintro e W' ⟨rfl, hgr⟩
  exact ⟨_, rfl, post_true laidOut_here (by kernel_rfl) rfl rfl Tryd.underlying4 ⟨rfl, rfl, rfl⟩ hW' hgr⟩

theorem secretRemarks_holds : Rows.SecretRemarksSaid :=
  OpenClaim.holds_of_wide 6 Tryd.f6 rfl rfl rfl rfl rfl rfl rfl ⟨rfl, rfl, rfl, rfl, rfl⟩ rfl rfl rfl rfl rfl (by kernel_rfl) Tryd.func6 (by kernel_rfl)
    (of_decide_eq_true (by kernel_rfl)) (by unfold Func.isWrapper; first | (rw [if_pos (by decide +kernel)]; kernel_rfl) | (rw [if_neg (by decide +kernel)]; exact ⟨rfl, rfl⟩))
    (fun os started H enc _ => secretRemarks_lifted os started H enc)

theorem secretRemarks_card : Rows.SecretRemarksCardSaid :=
  Claim7.holds_tied_plain_at .later [] _ _ _ _ secretRemarks_holds (fun _ h => by cases h) (by kernel_rfl) (fun _ h => by cases h) secretRemarks_row_tie rfl ⟨rfl, rfl⟩ (by kernel_rfl) rfl
    (fun f fn hf hfn => by
      obtain rfl : f = 6 := Option.some.inj ((show Tryd.prog.funcNamed "tether/tetherlaw06.SecretRemarks" = some 6 by kernel_rfl).symm.trans hf) |>.symm
      obtain rfl : fn = Tryd.f6 := (Option.some.inj (Tryd.func6.symm.trans hfn)).symm
      exact ⟨by kernel_rfl, fun j t ht => by
        rw [Tryd.params6] at ht
        have hm : t ∈ [9, 52] := by simpa using Array.mem_of_getElem? ht
        have hall : ([9, 52].all fun u => !Tryd.prog.wantsStandIn u) = true := by kernel_rfl
        exact (show Tryd.prog.wantsStandIn t = false by simpa using List.all_eq_true.1 hall t hm)⟩)
    (by kernel_rfl)
#print axioms secretRemarks_card
end Go.Proofs.YtnadimjglkodkaaDoor
