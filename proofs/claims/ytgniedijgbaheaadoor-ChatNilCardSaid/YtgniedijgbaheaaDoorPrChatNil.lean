/- ChatNil: for every input the law returns true, and each argument reads behind the call as it read before. -/
import Derived.Test.YtgniedijgbaheaaDoorRows
import Derived.Test.YtgniedijgbaheaaDoorTie
import Derived.Test.YtgniedijgbaheaaDoorCards
import Derived.Test.YtgniedijgbaheaaDoorEvPost
import Derived.LaidMore
import Derived.OpenShut
import Derived.Lay
import Derived.Stop.Joined
import Derived.SevenTiedAt
namespace Go.Proofs.YtgniedijgbaheaaDoor
open Go.ChangeShapes Go.WideShapes Go.ChangeAt Go.WideMaps Go.WideElems Go.RowKit Go.Ev

theorem chatNil_evals_nil (a : Int) : evals Tryd.prog 0 0 300 5 [.int .i64 a, .slice none 0 0] isTrue = true := by
  kernel_rfl
theorem chatNil_evals (a : Int) (off n c : Nat) : evals Tryd.prog 0 1 300 5 [.int .i64 a, .slice (some ⟨0, off, none⟩) n c] isTrue = true := by
  kernel_rfl
theorem zerosFlat_here : zerosFlat Tryd.prog = true := by kernel_rfl
theorem mixed_here : Tryd.prog.follows .mixedOrders = true := by kernel_rfl
theorem laidOut_here : laidOutB Tryd.prog = true := by kernel_rfl
theorem own_here : ownKnob Tryd.prog.godebug = Option.none := by kernel_rfl
theorem laid_fits (os : Os) : (World.holding Tryd.prog os ⟨#[], #[], []⟩).layFits Tryd.prog Rows.chatNilRow.laid [] = true := by kernel_rfl
theorem laid_ifaces (os : Os) : (World.holding Tryd.prog os ⟨#[], #[], []⟩).layIfaces Tryd.prog Rows.chatNilRow.laid (World.laidAll Tryd.prog os Rows.chatNilRow.laid) = true := by kernel_rfl
theorem laid_shaped (os : Os) : ((World.laidAll Tryd.prog os Rows.chatNilRow.laid).forCall (fun _ _ => 0) ⟨#[], #[.int .i64 0, .slice none 0 0], []⟩).Shaped Tryd.prog := World.shaped_of_ZipB (by kernel_rfl) (by kernel_rfl)

set_option maxRecDepth 100000 in
theorem chatNil_lifted (os : Os) (started : os.Started) (H : Type) (enc : TypeId × Value → H) :
    ReturnsInHanded {} Tryd.checked os 5 .any (fun w args => (Rows.chatNilSpec.pre enc Tryd.prog Tryd.f5 [] false w args ∧ laidMetH Tryd.prog Rows.chatNilRow.laid w) ∧ sizedMet enc Tryd.prog Tryd.f5 (OpenSpec.ofChange Rows.chatNilSpec) false w args)
      (Rows.chatNilSpec.post enc Tryd.prog Tryd.f5 false true false false) := by
  refine returnsInHanded_of_change_and (C := Tryd.checked) (X := fun w _ => laidMetH Tryd.prog Rows.chatNilRow.laid w) (fun _ _ _ hh h => h.of_heap hh) own_here started (by kernel_rfl) Tryd.func5
    (ChangeSpec.witness_shaped (enc := enc) (C := Tryd.checked) (os := os) (X := fun w _ => laidMetH Tryd.prog Rows.chatNilRow.laid w) false (World.laidAll Tryd.prog os Rows.chatNilRow.laid) #[.int .i64 0, .slice none 0 0] 8 (World.laidAll_os _ _ _) (laid_shaped os) (by kernel_rfl) (by kernel_rfl) (by kernel_rfl)
      (by rw [MakeChecks.laidMetH_plain _ _ _ (by kernel_rfl)]; exact laidMet_laidAll _ (laid_fits os) (laid_ifaces os))) ?_
  intro W base args ds gs before hval0 hW _ _ _ _
  have hval : ∀ (j : Nat) t v, Tryd.f5.params[j]? = some t → args[j]? = some v → Value.okWide Tryd.prog W .any base t v := hval0
  have hW' := hW
  obtain ⟨p, q, hA0, hV, rfl, hfz, hnd⟩ := hW
  have hA : DataW.TrodAll enc Tryd.prog W 0 (fun _ => true) true Tryd.f5.params.toList args.toList ds p := hA0
  rw [Tryd.params5] at hA hval
  obtain ⟨v0, v1, d0, d1, p0, p1, rfl, rfl, rfl, h0, h1⟩ := trodAll_two hA
  obtain ⟨rfl, rfl⟩ := trodVars_none hV
  obtain ⟨a, rfl, rfl, rfl, wa⟩ := open_int Tryd.underlying2 (hval 0 2 v0 rfl rfl) h0
  have fin : ∀ e W', (∃ v, e = Ending.returned v ∧ isTrue v = true ∧ Below W.heap.size W W') → ∃ v, e = Ending.returned v ∧ Rows.chatNilSpec.post enc Tryd.prog Tryd.f5 false true false false W #[.int .i64 a, v1] v W' := by
    intro e W' hen
    obtain ⟨v, rfl, hv, hgr⟩ := hen
    obtain rfl := isTrue_eq hv
    exact ⟨_, rfl, post_true laidOut_here (by kernel_rfl) rfl rfl Tryd.underlying4 ⟨rfl, rfl, rfl⟩ hW' hgr⟩
  rcases slice_came Tryd.underlying22 (hval 1 22 v1 rfl rfl) with rfl | ⟨ad, n, c, rfl, hs, hlt⟩
  · exact (evals_closed zerosFlat_here mixed_here (chatNil_evals_nil a) rfl (w := W) (Nat.zero_le _)).mono fin
  · exact (evals_blocks zerosFlat_here mixed_here (chatNil_evals a ad.off n c) (bs := [ad.block]) rfl (w := W) (args' := #[.int .i64 a, .slice (some ad) n c]) (by simpa using hlt) (.cons (.int _ _) (.cons (vr_came hs rfl) .nil))).mono fin

theorem chatNil_holds : Rows.ChatNilSaid :=
  OpenClaim.holds_of_wide 5 Tryd.f5 rfl rfl rfl rfl rfl rfl rfl ⟨rfl, rfl, rfl, rfl, rfl⟩ rfl rfl rfl rfl rfl (by kernel_rfl) Tryd.func5 (by kernel_rfl)
    (of_decide_eq_true (by kernel_rfl)) (by unfold Func.isWrapper; first | (rw [if_pos (by decide +kernel)]; kernel_rfl) | (rw [if_neg (by decide +kernel)]; exact ⟨rfl, rfl⟩))
    (fun os started H enc _ => chatNil_lifted os started H enc)

theorem chatNil_card : Rows.ChatNilCardSaid :=
  Claim7.holds_tied_plain_at .later [] [.data, .data, .data, .sentinel, .sentinel] true (true, "3def9ccecb265729eafe7d9fb0f6f7bdc7d8cb0f58ac364cfac824ce48fcb4ec") true
    chatNil_holds (fun _ h => by cases h) (by kernel_rfl) (fun _ h => by cases h) chatNil_row_tie rfl ⟨rfl, rfl⟩ (by kernel_rfl) rfl
    (fun f fn hf hfn => by
      obtain rfl : f = 5 := Option.some.inj ((show Tryd.prog.funcNamed "tether/tetherlaw07.ChatNil" = some 5 by kernel_rfl).symm.trans hf) |>.symm
      obtain rfl : fn = Tryd.f5 := (Option.some.inj (Tryd.func5.symm.trans hfn)).symm
      exact ⟨by kernel_rfl, fun j t ht => by
        rw [Tryd.params5] at ht
        have hm : t ∈ [2, 22] := by simpa using Array.mem_of_getElem? ht
        have hall : ([2, 22].all fun u => !Tryd.prog.wantsStandIn u) = true := by kernel_rfl
        exact (show Tryd.prog.wantsStandIn t = false by simpa using List.all_eq_true.1 hall t hm)⟩)
    (by kernel_rfl)
#print axioms chatNil_card
end Go.Proofs.YtgniedijgbaheaaDoor
