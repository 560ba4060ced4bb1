/- MeterBest: for every input the law returns true, and each argument reads behind the call as it read before. -/
import Derived.Test.YthidmnghdoipiaaGreatDoorRows
import Derived.Test.YthidmnghdoipiaaGreatDoorTie
import Derived.Test.YthidmnghdoipiaaGreatDoorCards
import Derived.LaidMore
import Derived.OpenShut
import Derived.Lay
import Derived.Laws.Cover2
import Derived.Stop.Joined
import Derived.SevenTiedAt
import Derived.Test.YthidmnghdoipiaaGreatDoorPrBeI
namespace Go.Proofs.YthidmnghdoipiaaGreatDoor
open Go Go.ChangeShapes Go.WideShapes Go.ChangeAt Go.WideMaps Go.WideElems Go.RowKit Go.Ev

theorem laidOut_here : laidOutB Tryz.prog = true := by kernel_rfl
theorem own_here : ownKnob Tryz.prog.godebug = Option.none := by kernel_rfl

theorem flt_cells {H : Type} {enc : TypeId × Value → H} {W : World} {fuel : Nat} {l : List Value} {q : DataW H × List MemPlace} (h : DataW.trod enc Tryz.prog W 0 (fun _ => true) true fuel 37 l = some q) : ∃ x, l = [.float .f64 x] ∧ x < 2 ^ 64 := by
  have ht : Tryz.prog.underlying 37 = some (.float .f64) := Tryz.underlying37
  cases fuel with
  | zero => simp [DataW.trod] at h
  | succ n =>
    unfold DataW.trod at h
    rw [ht] at h
    split at h
    all_goals simp_all
    rename_i heq
    have hw := h.1.2
    rw [← heq] at hw
    simpa [Lit.wf] using hw
theorem fl_of {f : Nat → List Value} : ∀ {n : Nat}, (∀ i, i < n → ∃ x, f i = [.float .f64 x] ∧ x < 2 ^ 64) → ∃ xs : List Nat, flatR f n = fl xs ∧ xs.length = n ∧ W64s xs
  | 0, _ => ⟨[], rfl, rfl, fun _ h => (by cases h)⟩
  | n + 1, h => by
    obtain ⟨xs, h1, h2, h3⟩ := fl_of (n := n) fun i hi => h i (by omega)
    obtain ⟨x, h4, h5⟩ := h n (by omega)
    refine ⟨xs ++ [x], ?_, by simp [h2], fun y hy => ?_⟩
    · show flatR f n ++ f n = _
      rw [h1, h4, fl_app]; rfl
    · rcases List.mem_append.1 hy with hy | hy
      · exact h3 y hy
      · obtain rfl := List.mem_singleton.1 hy; exact h5

/-! ### the row -/

theorem laid_fits (os : Os) : (World.holding Tryz.prog os ⟨#[], #[], []⟩).layFits Tryz.prog Rows.meterBestRow.laid [] = true := by kernel_rfl
theorem laid_ifaces (os : Os) : (World.holding Tryz.prog os ⟨#[], #[], []⟩).layIfaces Tryz.prog Rows.meterBestRow.laid (World.laidAll Tryz.prog os Rows.meterBestRow.laid) = true := by kernel_rfl
theorem laid_shaped (os : Os) : ((World.laidAll Tryz.prog os Rows.meterBestRow.laid).forCall (fun _ _ => 0) ⟨#[], #[.slice none 0 0], []⟩).Shaped Tryz.prog := World.shaped_of_ZipB (by kernel_rfl) (by kernel_rfl)

set_option maxRecDepth 100000 in
theorem meterBest_lifted (os : Os) (started : os.Started) (H : Type) (enc : TypeId × Value → H) :
    ReturnsInHanded {} Tryz.checked os 4 .any (fun w args => (Rows.meterBestSpec.pre enc Tryz.prog Tryz.f4 [] false w args ∧ laidMetH Tryz.prog Rows.meterBestRow.laid w) ∧ sizedMet enc Tryz.prog Tryz.f4 (OpenSpec.ofChange Rows.meterBestSpec) false w args)
      (Rows.meterBestSpec.post enc Tryz.prog Tryz.f4 false true false false) := by
  refine returnsInHanded_of_change_and (C := Tryz.checked) (X := fun w _ => laidMetH Tryz.prog Rows.meterBestRow.laid w) (fun _ _ _ hh h => h.of_heap hh) own_here started (by kernel_rfl) Tryz.func4
    (ChangeSpec.witness_shaped (enc := enc) (C := Tryz.checked) (os := os) (X := fun w _ => laidMetH Tryz.prog Rows.meterBestRow.laid w) false (World.laidAll Tryz.prog os Rows.meterBestRow.laid) #[.slice none 0 0] 8 (World.laidAll_os _ _ _) (laid_shaped os) (by kernel_rfl) (by kernel_rfl) (by kernel_rfl)
      (by rw [MakeChecks.laidMetH_plain _ _ _ (by kernel_rfl)]; exact laidMet_laidAll _ (laid_fits os) (laid_ifaces os))) ?_
  intro W base args ds gs before hval0 hW _ hwt _ _
  have hval : ∀ (j : Nat) t v, Tryz.f4.params[j]? = some t → args[j]? = some v → Value.okWide Tryz.prog W .any base t v := hval0
  have hW' := hW
  obtain ⟨p, q, hA0, hV, rfl, hfz, hnd⟩ := hW
  have hA : DataW.TrodAll enc Tryz.prog W 0 (fun _ => true) true Tryz.f4.params.toList args.toList ds p := hA0
  rw [Tryz.params4] at hA hval
  obtain ⟨v0, vs, d0, ds', p0, q0, hargs, rfl, rfl, h0, r0⟩ := trodAll_cons hA
  obtain ⟨rfl, rfl, rfl⟩ := trodAll_nil r0
  obtain rfl : args = #[v0] := by cases args; simp_all
  obtain ⟨rfl, rfl⟩ := trodVars_none hV
  have t36 : Tryz.prog.underlying 36 = some (.slice 37) := by kernel_rfl
  have c37 : Tryz.prog.cellsOf 37 = 1 := by kernel_rfl
  have fin : ∀ e W', (e = Ending.returned (.bool true) ∧ Below W.heap.size W W') → ∃ v, e = Ending.returned v ∧ Rows.meterBestSpec.post enc Tryz.prog Tryz.f4 false true false false W #[v0] v W' := fun e W' hen => by
    obtain ⟨rfl, hgr⟩ := hen
    exact ⟨_, rfl, post_true laidOut_here (by kernel_rfl) rfl rfl (show Tryz.prog.underlying 4 = some .bool by kernel_rfl) ⟨rfl, rfl, rfl⟩ hW' hgr⟩
  rcases rows_came t36 c37 (by omega) (hval 0 36 v0 rfl rfl) h0 with rfl | ⟨a, n, c, f, rfl, hnc, hf, hca, ls, ss, rfl, hlen⟩
  · exact best_law_nil.mono fin
  · have hw : (((ls.length + ss.length) * Tryz.prog.bytesOf 37) ≤ reachBytes) := by
      have := List.all_eq_true.1 hwt ((ls.length + ss.length) * Tryz.prog.bytesOf 37) (by
        have e : Tryz.f4.params.toList ++ Rows.meterBestSpec.plain.varTypes Tryz.prog = [36] := by kernel_rfl
        have e2 : Tryz.checked.prog = Tryz.prog := rfl
        rw [e2, e]
        simp [DataW.weightsEach, DataW.weights, t36])
      simpa using this
    have b37 : Tryz.prog.bytesOf 37 = 8 := by kernel_rfl
    rw [b37, hlen] at hw
    have hrb : reachBytes = 140737488351232 := rfl
    have hop : ∀ i, i < c → ∃ x, f i = [.float .f64 x] ∧ x < 2 ^ 64 := fun i hi => by
      obtain ⟨_, fuel, q, hq⟩ := hf i hi
      exact flt_cells hq
    have hfl : ∀ i, i < c → flatL (f i) = true := fun i hi => by
      obtain ⟨x, h, _⟩ := hop i hi
      rw [h]; rfl
    obtain ⟨xs, e1, e2, e3⟩ := fl_of hop
    have ca := hca hfl
    rw [e1] at ca
    exact (best_law e3 (by omega) hnc (by omega) ca).mono fin

theorem meterBest_holds : Rows.MeterBestSaid :=
  OpenClaim.holds_of_wide 4 Tryz.f4 rfl rfl rfl rfl rfl rfl rfl ⟨rfl, rfl, rfl, rfl, rfl⟩ rfl rfl rfl rfl rfl (by kernel_rfl) Tryz.func4 (by kernel_rfl)
    (of_decide_eq_true (by kernel_rfl)) (by unfold Func.isWrapper; first | (rw [if_pos (by decide +kernel)]; kernel_rfl) | (rw [if_neg (by decide +kernel)]; exact ⟨rfl, rfl⟩))
    (fun os started H enc _ => meterBest_lifted os started H enc)

theorem meterBest_card : Rows.MeterBestCardSaid :=
  Claim7.holds_tied_plain_at .later [] _ _ _ _ meterBest_holds (fun _ h => by cases h) (by kernel_rfl) (fun _ h => by cases h) meterBest_row_tie rfl ⟨rfl, rfl⟩ (by kernel_rfl) rfl
    (fun f fn hf hfn => by
      obtain rfl : f = 4 := Option.some.inj ((show Tryz.prog.funcNamed "tether/tetherlaw25.MeterBest" = some 4 by kernel_rfl).symm.trans hf) |>.symm
      obtain rfl : fn = Tryz.f4 := (Option.some.inj (Tryz.func4.symm.trans hfn)).symm
      exact ⟨by kernel_rfl, fun j t ht => by
        rw [Tryz.params4] at ht
        have hm : t ∈ [36] := by simpa using Array.mem_of_getElem? ht
        have hall : ([36].all fun u => !Tryz.prog.wantsStandIn u) = true := by kernel_rfl
        exact (show Tryz.prog.wantsStandIn t = false by simpa using List.all_eq_true.1 hall t hm)⟩)
    (by kernel_rfl)
#print axioms meterBest_card
end Go.Proofs.YthidmnghdoipiaaGreatDoor
