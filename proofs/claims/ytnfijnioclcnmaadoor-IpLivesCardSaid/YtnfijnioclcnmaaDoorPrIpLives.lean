/- IpLives: for every input the law returns true, and each argument reads behind the call as it read before. -/
import Derived.Test.YtnfijnioclcnmaaDoorRows
import Derived.Test.YtnfijnioclcnmaaDoorTie
import Derived.Test.YtnfijnioclcnmaaDoorCards
import Derived.LaidMore
import Derived.OpenShut
import Derived.Lay
import Derived.Laws.Cover2
import Derived.Stop.Joined
import Derived.SevenTiedAt
import Derived.Test.YtnfijnioclcnmaaDoorPrIpY
namespace Go.Proofs.YtnfijnioclcnmaaDoor
open Go Go.ChangeShapes Go.WideShapes Go.ChangeAt Go.WideMaps Go.WideElems Go.RowKit Go.Ev

theorem laidOut_here : laidOutB Tryd.prog = true := by kernel_rfl
theorem own_here : ownKnob Tryd.prog.godebug = Option.none := by kernel_rfl

theorem lives_all {W : World} {v : Value}
    (h0 : v = .slice none 0 0 ∨ ∃ a n c zs, v = .slice (some a) n c ∧ Came W (u8L zs) a ∧ n ≤ c ∧ zs.length = c ∧ (∀ y ∈ zs, 0 ≤ y ∧ y < 256) ∧ c ≤ 140737488351232) :
    Calls Tryd.prog 6 #[v] W fun e W' => e = .returned (.bool true) ∧ Below W.heap.size W W' := by
  rcases h0 with rfl | ⟨a, n, c, zs, rfl, ca, hnc, hz, hby, hc⟩
  · exact call_came (e := 5) (rows := []) zerosFlat_here mixed_here (rowHints_ok AW_ok .nil) l_nil All.nil (wf_bare 0) rfl rfl (fun id h => absurd h (Nat.not_lt_zero _)) (fun r hr => by cases hr) (.cons (.sliceNil 0 0) .nil)
  · have hlz : (u8L zs).length = c := by unfold u8L; simp [hz]
    have hin : ∀ r ∈ [(u8L zs, a)], Came W r.1 r.2 := fun r hr => by obtain rfl := List.mem_singleton.1 hr; exact ca
    have hb : Bytes (u8L zs) 0 n := bytes_u8 hby (by omega) (by omega)
    have hpp : All (parsedP (u8L zs) n c) := All.cons rfl (All.cons rfl (All.cons hnc (All.cons hb All.nil)))
    cases q1 : ((parseF (u8L zs) n).err != 0) with
    | true => exact call_came (e := 5) (rows := [(u8L zs, a)]) zerosFlat_here mixed_here (liveH_ok _) (l_err (u8L zs) n c) (All.append hpp (All.cons q1 (All.append hpp (All.cons q1 (All.cons (by simp) All.nil))))) (rowH_wf ..) rfl rfl (fun id h => cameH_get _ _ a id h) hin (.cons (came_slice (id := 0) (r := (u8L zs, a)) rfl ca.spot n c) .nil)
    | false => exact lives_call hb hnc (by simpa using q1) ca

/-! ### the row -/

theorem laid_fits (os : Os) : (World.holding Tryd.prog os ⟨#[], #[], []⟩).layFits Tryd.prog Rows.ipLivesRow.laid [] = true := by kernel_rfl
theorem laid_ifaces (os : Os) : (World.holding Tryd.prog os ⟨#[], #[], []⟩).layIfaces Tryd.prog Rows.ipLivesRow.laid (World.laidAll Tryd.prog os Rows.ipLivesRow.laid) = true := by kernel_rfl
theorem laid_shaped (os : Os) : ((World.laidAll Tryd.prog os Rows.ipLivesRow.laid).forCall (fun _ _ => 0) ⟨#[], #[.slice none 0 0], []⟩).Shaped Tryd.prog := World.shaped_of_ZipB (by kernel_rfl) (by kernel_rfl)

set_option maxRecDepth 100000 in
theorem ipLives_lifted (os : Os) (started : os.Started) (H : Type) (enc : TypeId × Value → H) :
    ReturnsInHanded {} Tryd.checked os 6 .any (fun w args => (Rows.ipLivesSpec.pre enc Tryd.prog Tryd.f6 [] false w args ∧ laidMetH Tryd.prog Rows.ipLivesRow.laid w) ∧ sizedMet enc Tryd.prog Tryd.f6 (OpenSpec.ofChange Rows.ipLivesSpec) false w args)
      (Rows.ipLivesSpec.post enc Tryd.prog Tryd.f6 false true false false) := by
  refine returnsInHanded_of_change_and (C := Tryd.checked) (X := fun w _ => laidMetH Tryd.prog Rows.ipLivesRow.laid w) (fun _ _ _ hh h => h.of_heap hh) own_here started (by kernel_rfl) Tryd.func6
    (ChangeSpec.witness_shaped (enc := enc) (C := Tryd.checked) (os := os) (X := fun w _ => laidMetH Tryd.prog Rows.ipLivesRow.laid w) false (World.laidAll Tryd.prog os Rows.ipLivesRow.laid) #[.slice none 0 0] 8 (World.laidAll_os _ _ _) (laid_shaped os) (by kernel_rfl) (by kernel_rfl) (by kernel_rfl)
      (by rw [MakeChecks.laidMetH_plain _ _ _ (by kernel_rfl)]; exact laidMet_laidAll _ (laid_fits os) (laid_ifaces os))) ?_
  intro W base args ds gs before hval0 hW _ hwt _ _
  have hval : ∀ (j : Nat) t v, Tryd.f6.params[j]? = some t → args[j]? = some v → Value.okWide Tryd.prog W .any base t v := hval0
  have hW' := hW
  obtain ⟨p, q, hA0, hV, rfl, hfz, hnd⟩ := hW
  have hA : DataW.TrodAll enc Tryd.prog W 0 (fun _ => true) true Tryd.f6.params.toList args.toList ds p := hA0
  rw [Tryd.params6] at hA hval
  obtain ⟨v0, vs, d0, ds', p0, q0, hargs, rfl, rfl, h0, r0⟩ := trodAll_cons hA
  obtain ⟨rfl, rfl, rfl⟩ := trodAll_nil r0
  obtain rfl : args = #[v0] := by cases args; simp_all
  obtain ⟨rfl, rfl⟩ := trodVars_none hV
  have t5 : Tryd.prog.underlying 5 = some (.int .u8) := by kernel_rfl
  have t22 : Tryd.prog.underlying 22 = some (.slice 5) := by kernel_rfl
  have c5 : Tryd.prog.cellsOf 5 = 1 := by kernel_rfl
  have hc : v0 = .slice none 0 0 ∨ ∃ a n c zs, v0 = .slice (some a) n c ∧ Came W (u8L zs) a ∧ n ≤ c ∧ zs.length = c ∧ (∀ y ∈ zs, 0 ≤ y ∧ y < 256) ∧ c ≤ 140737488351232 := by
    rcases bytes_came t22 t5 c5 (hval 0 22 v0 rfl rfl) h0 with h | ⟨a, n, c, zs, rfl, ca, hnc, hz, hby, ls, ss, rfl, hlen⟩
    · exact .inl h
    · refine .inr ⟨a, n, c, zs, rfl, ca, hnc, hz, hby, ?_⟩
      have hw : (((ls.length + ss.length) * Tryd.prog.bytesOf 5) ≤ reachBytes) := by
        have := List.all_eq_true.1 hwt ((ls.length + ss.length) * Tryd.prog.bytesOf 5) (by
          have e : Tryd.f6.params.toList ++ Rows.ipLivesSpec.plain.varTypes Tryd.prog = [22] := by kernel_rfl
          have e2 : Tryd.checked.prog = Tryd.prog := rfl
          rw [e2, e]
          simp [DataW.weightsEach, DataW.weights, t22])
        simpa using this
      have b5 : Tryd.prog.bytesOf 5 = 1 := by kernel_rfl
      rw [b5, hlen] at hw
      have : reachBytes = 140737488351232 := rfl
      omega
  refine (lives_all hc).mono fun e W' hen => ?_
  obtain ⟨rfl, hgr⟩ := hen
  exact ⟨_, rfl, post_true laidOut_here (by kernel_rfl) rfl rfl (show Tryd.prog.underlying 4 = some .bool by kernel_rfl) ⟨rfl, rfl, rfl⟩ hW' hgr⟩

theorem ipLives_holds : Rows.IpLivesSaid :=
  OpenClaim.holds_of_wide 6 Tryd.f6 rfl rfl rfl rfl rfl rfl rfl ⟨rfl, rfl, rfl, rfl, rfl⟩ rfl rfl rfl rfl rfl (by kernel_rfl) Tryd.func6 (by kernel_rfl)
    (of_decide_eq_true (by kernel_rfl)) (by unfold Func.isWrapper; first | (rw [if_pos (by decide +kernel)]; kernel_rfl) | (rw [if_neg (by decide +kernel)]; exact ⟨rfl, rfl⟩))
    (fun os started H enc _ => ipLives_lifted os started H enc)

theorem ipLives_card : Rows.IpLivesCardSaid :=
  Claim7.holds_tied_plain_at .later [] _ _ _ _ ipLives_holds (fun _ h => by cases h) (by kernel_rfl) (fun _ h => by cases h) ipLives_row_tie rfl ⟨rfl, rfl⟩ (by kernel_rfl) rfl
    (fun f fn hf hfn => by
      obtain rfl : f = 6 := Option.some.inj ((show Tryd.prog.funcNamed "tether/tetherlaw18.IpLives" = some 6 by kernel_rfl).symm.trans hf) |>.symm
      obtain rfl : fn = Tryd.f6 := (Option.some.inj (Tryd.func6.symm.trans hfn)).symm
      exact ⟨by kernel_rfl, fun j t ht => by
        rw [Tryd.params6] at ht
        have hm : t ∈ [22] := by simpa using Array.mem_of_getElem? ht
        have hall : ([22].all fun u => !Tryd.prog.wantsStandIn u) = true := by kernel_rfl
        exact (show Tryd.prog.wantsStandIn t = false by simpa using List.all_eq_true.1 hall t hm)⟩)
    (by kernel_rfl)
#print axioms ipLives_card
end Go.Proofs.YtnfijnioclcnmaaDoor
