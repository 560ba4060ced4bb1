/- ChatFinds: for every input the law returns true, and each argument reads behind the call as it read before. -/
import Derived.Test.YtgniedijgbaheaaDoorRows
import Derived.Test.YtgniedijgbaheaaDoorTie
import Derived.Test.YtgniedijgbaheaaDoorCards
import Derived.LaidMore
import Derived.OpenShut
import Derived.Lay
import Derived.Laws.Cover2
import Derived.Stop.Joined
import Derived.SevenTiedAt
import Derived.Test.YtgniedijgbaheaaDoorPrChG
namespace Go.Proofs.YtgniedijgbaheaaDoor
open Go Go.ChangeShapes Go.WideShapes Go.ChangeAt Go.WideMaps Go.WideElems Go.RowKit Go.Ev

theorem laidOut_here : laidOutB Tryd.prog = true := by kernel_rfl
theorem own_here : ownKnob Tryd.prog.godebug = Option.none := by kernel_rfl

theorem finds_all {W : World} {v : Value} {s : ByteArray} {x : Int}
    (h0 : v = .slice none 0 0 ∨ ∃ a n c zs, v = .slice (some a) n c ∧ Came W (u8L zs) a ∧ n ≤ c ∧ zs.length = c ∧ (∀ y ∈ zs, 0 ≤ y ∧ y < 256) ∧ c ≤ 140737488351232) :
    Calls Tryd.prog 3 #[.string s, v, .int .i64 x] W fun e W' => e = .returned (.bool true) ∧ Below W.heap.size W W' := by
  by_cases hs : s.size ≤ 1024
  · by_cases hx : x < 0 ∨ x > 549755813888
    · have hp : All (offP s x (decide (x < 0))) := by
        unfold offP
        refine All.append (All.cons (by simp; omega) (All.cons rfl All.nil)) ?_
        cases hd : decide (x < 0) with
        | true => exact All.nil
        | false => exact All.cons (by simp at hd ⊢; omega) All.nil
      rcases h0 with rfl | ⟨a, n, c, zs, rfl, ca, hnc, hz, hby, hc⟩
      · exact call_came (e := 5) (rows := []) zerosFlat_here mixed_here (chH_ok _) (e_off0 s x (decide (x < 0))) hp (wf_bare 0) rfl rfl (fun id h => absurd h (Nat.not_lt_zero _)) (fun r hr => by cases hr) (.cons (VR.flat _ rfl) (.cons (.sliceNil 0 0) (VL.flat _ rfl)))
      · exact call_came (e := 5) (rows := [(u8L zs, a)]) zerosFlat_here mixed_here (chH_ok _) (e_off1 (u8L zs) s n c x (decide (x < 0))) hp (rowH_wf ..) rfl rfl (fun id h => cameH_get _ _ a id h) (fun r hr => by obtain rfl := List.mem_singleton.1 hr; exact ca) (.cons (VR.flat _ rfl) (.cons (came_slice (id := 0) (r := (u8L zs, a)) rfl ca.spot n c) (VL.flat _ rfl)))
    · rcases h0 with rfl | ⟨a, n, c, zs, rfl, ca, hnc, hz, hby, hc⟩
      · exact finds_nil (by omega) (by omega) hs
      · refine finds_call (cs := u8L zs) ?_ hnc (by unfold u8L; simp; omega) (by omega) (by omega) hs ca
        rw [List.all_eq_true]
        intro v hv
        unfold u8L at hv
        obtain ⟨y, _, rfl⟩ := List.mem_map.1 hv
        rfl
  · have hp : All (earlyP s) := All.cons (by simp; omega) (All.cons (by simp; omega) All.nil)
    rcases h0 with rfl | ⟨a, n, c, zs, rfl, ca, hnc, hz, hby, hc⟩
    · exact call_came (e := 5) (rows := []) zerosFlat_here mixed_here (chH_ok _) (e_long0 s x) hp (wf_bare 0) rfl rfl (fun id h => absurd h (Nat.not_lt_zero _)) (fun r hr => by cases hr) (.cons (VR.flat _ rfl) (.cons (.sliceNil 0 0) (VL.flat _ rfl)))
    · exact call_came (e := 5) (rows := [(u8L zs, a)]) zerosFlat_here mixed_here (chH_ok _) (e_long1 (u8L zs) s n c x) hp (rowH_wf ..) rfl rfl (fun id h => cameH_get _ _ a id h) (fun r hr => by obtain rfl := List.mem_singleton.1 hr; exact ca) (.cons (VR.flat _ rfl) (.cons (came_slice (id := 0) (r := (u8L zs, a)) rfl ca.spot n c) (VL.flat _ rfl)))

/-! ### the row -/

theorem laid_fits (os : Os) : (World.holding Tryd.prog os ⟨#[], #[], []⟩).layFits Tryd.prog Rows.chatFindsRow.laid [] = true := by kernel_rfl
theorem laid_ifaces (os : Os) : (World.holding Tryd.prog os ⟨#[], #[], []⟩).layIfaces Tryd.prog Rows.chatFindsRow.laid (World.laidAll Tryd.prog os Rows.chatFindsRow.laid) = true := by kernel_rfl
theorem laid_shaped (os : Os) : ((World.laidAll Tryd.prog os Rows.chatFindsRow.laid).forCall (fun _ _ => 0) ⟨#[], #[.string ByteArray.empty, .slice none 0 0, .int .i64 0], []⟩).Shaped Tryd.prog := World.shaped_of_ZipB (by kernel_rfl) (by kernel_rfl)

set_option maxRecDepth 100000 in
theorem chatFinds_lifted (os : Os) (started : os.Started) (H : Type) (enc : TypeId × Value → H) :
    ReturnsInHanded {} Tryd.checked os 3 .any (fun w args => (Rows.chatFindsSpec.pre enc Tryd.prog Tryd.f3 [] false w args ∧ laidMetH Tryd.prog Rows.chatFindsRow.laid w) ∧ sizedMet enc Tryd.prog Tryd.f3 (OpenSpec.ofChange Rows.chatFindsSpec) false w args)
      (Rows.chatFindsSpec.post enc Tryd.prog Tryd.f3 false true false false) := by
  refine returnsInHanded_of_change_and (C := Tryd.checked) (X := fun w _ => laidMetH Tryd.prog Rows.chatFindsRow.laid w) (fun _ _ _ hh h => h.of_heap hh) own_here started (by kernel_rfl) Tryd.func3
    (ChangeSpec.witness_shaped (enc := enc) (C := Tryd.checked) (os := os) (X := fun w _ => laidMetH Tryd.prog Rows.chatFindsRow.laid w) false (World.laidAll Tryd.prog os Rows.chatFindsRow.laid) #[.string ByteArray.empty, .slice none 0 0, .int .i64 0] 8 (World.laidAll_os _ _ _) (laid_shaped os) (by kernel_rfl) (by kernel_rfl) (by kernel_rfl)
      (by rw [MakeChecks.laidMetH_plain _ _ _ (by kernel_rfl)]; exact laidMet_laidAll _ (laid_fits os) (laid_ifaces os))) ?_
  intro W base args ds gs before hval0 hW _ hwt _ _
  have hval : ∀ (j : Nat) t v, Tryd.f3.params[j]? = some t → args[j]? = some v → Value.okWide Tryd.prog W .any base t v := hval0
  have hW' := hW
  obtain ⟨p, q, hA0, hV, rfl, hfz, hnd⟩ := hW
  have hA : DataW.TrodAll enc Tryd.prog W 0 (fun _ => true) true Tryd.f3.params.toList args.toList ds p := hA0
  rw [Tryd.params3] at hA hval
  obtain ⟨v0, vs, d0, ds', p0, q0, hargs, rfl, rfl, h0, r0⟩ := trodAll_cons hA
  obtain ⟨v1, vs', d1, ds'', p1, q1, rfl, rfl, rfl, h1, r1⟩ := trodAll_cons r0
  obtain ⟨v2, vs'', d2, ds3, p2, q2, rfl, rfl, rfl, h2, r2⟩ := trodAll_cons r1
  obtain ⟨rfl, rfl, rfl⟩ := trodAll_nil r2
  obtain rfl : args = #[v0, v1, v2] := by cases args; simp_all
  obtain ⟨rfl, rfl⟩ := trodVars_none hV
  have t5 : Tryd.prog.underlying 5 = some (.int .u8) := by kernel_rfl
  have t22 : Tryd.prog.underlying 22 = some (.slice 5) := by kernel_rfl
  have t2 : Tryd.prog.underlying 2 = some (.int .i64) := by kernel_rfl
  have t9 : Tryd.prog.underlying 9 = some .string := by kernel_rfl
  have c5 : Tryd.prog.cellsOf 5 = 1 := by kernel_rfl
  obtain ⟨s, rfl, rfl, rfl, _⟩ := Go.ChangeMaps.open_string t9 (hval 0 9 v0 rfl rfl) h0
  obtain ⟨x, rfl, rfl, rfl, _⟩ := open_int t2 (hval 2 2 v2 rfl rfl) h2
  have hc : v1 = .slice none 0 0 ∨ ∃ a n c zs, v1 = .slice (some a) n c ∧ Came W (u8L zs) a ∧ n ≤ c ∧ zs.length = c ∧ (∀ y ∈ zs, 0 ≤ y ∧ y < 256) ∧ c ≤ 140737488351232 := by
    rcases bytes_came t22 t5 c5 (hval 1 22 v1 rfl rfl) h1 with h | ⟨a, n, c, zs, rfl, ca, hnc, hz, hby, ls, ss, rfl, hlen⟩
    · exact .inl h
    · refine .inr ⟨a, n, c, zs, rfl, ca, hnc, hz, hby, ?_⟩
      have hw : (((ls.length + ss.length) * Tryd.prog.bytesOf 5) ≤ reachBytes) := by
        have := List.all_eq_true.1 hwt ((ls.length + ss.length) * Tryd.prog.bytesOf 5) (by
          have e : Tryd.f3.params.toList ++ Rows.chatFindsSpec.plain.varTypes Tryd.prog = [9, 22, 2] := by kernel_rfl
          have e2 : Tryd.checked.prog = Tryd.prog := rfl
          rw [e2, e]
          simp [DataW.weightsEach, DataW.weights, t22])
        simpa using this
      have b5 : Tryd.prog.bytesOf 5 = 1 := by kernel_rfl
      rw [b5, hlen] at hw
      have : reachBytes = 140737488351232 := rfl
      omega
  refine (finds_all hc).mono fun e W' hen => ?_
  obtain ⟨rfl, hgr⟩ := hen
  exact ⟨_, rfl, post_true laidOut_here (by kernel_rfl) rfl rfl (show Tryd.prog.underlying 4 = some .bool by kernel_rfl) ⟨rfl, rfl, rfl⟩ hW' hgr⟩

theorem chatFinds_holds : Rows.ChatFindsSaid :=
  OpenClaim.holds_of_wide 3 Tryd.f3 rfl rfl rfl rfl rfl rfl rfl ⟨rfl, rfl, rfl, rfl, rfl⟩ rfl rfl rfl rfl rfl (by kernel_rfl) Tryd.func3 (by kernel_rfl)
    (of_decide_eq_true (by kernel_rfl)) (by unfold Func.isWrapper; first | (rw [if_pos (by decide +kernel)]; kernel_rfl) | (rw [if_neg (by decide +kernel)]; exact ⟨rfl, rfl⟩))
    (fun os started H enc _ => chatFinds_lifted os started H enc)

theorem chatFinds_card : Rows.ChatFindsCardSaid :=
  Claim7.holds_tied_plain_at .later [] _ _ _ _ chatFinds_holds (fun _ h => by cases h) (by kernel_rfl) (fun _ h => by cases h) chatFinds_row_tie rfl ⟨rfl, rfl⟩ (by kernel_rfl) rfl
    (fun f fn hf hfn => by
      obtain rfl : f = 3 := Option.some.inj ((show Tryd.prog.funcNamed "tether/tetherlaw07.ChatFinds" = some 3 by kernel_rfl).symm.trans hf) |>.symm
      obtain rfl : fn = Tryd.f3 := (Option.some.inj (Tryd.func3.symm.trans hfn)).symm
      exact ⟨by kernel_rfl, fun j t ht => by
        rw [Tryd.params3] at ht
        have hm : t ∈ [9, 22, 2] := by simpa using Array.mem_of_getElem? ht
        have hall : ([9, 22, 2].all fun u => !Tryd.prog.wantsStandIn u) = true := by kernel_rfl
        exact (show Tryd.prog.wantsStandIn t = false by simpa using List.all_eq_true.1 hall t hm)⟩)
    (by kernel_rfl)
#print axioms chatFinds_card
end Go.Proofs.YtgniedijgbaheaaDoor
