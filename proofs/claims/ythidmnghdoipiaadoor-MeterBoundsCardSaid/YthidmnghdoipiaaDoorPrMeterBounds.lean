/- MeterBounds: for every input the law returns true, and each argument reads behind the call as it read before. -/
import Derived.Test.YthidmnghdoipiaaDoorRows
import Derived.Test.YthidmnghdoipiaaDoorTie
import Derived.Test.YthidmnghdoipiaaDoorCards
import Derived.LaidMore
import Derived.OpenShut
import Derived.Lay
import Derived.Laws.Cover2
import Derived.Stop.Joined
import Derived.SevenTiedAt
import Derived.Test.YthidmnghdoipiaaDoorPrMbD
namespace Go.Proofs.YthidmnghdoipiaaDoor
open Go Go.ChangeShapes Go.WideShapes Go.ChangeAt Go.WideMaps Go.WideElems Go.RowKit Go.Ev

theorem laidOut_here : laidOutB Tryd.prog = true := by kernel_rfl
theorem own_here : ownKnob Tryd.prog.godebug = Option.none := by kernel_rfl

section
variable {P : Program}
theorem cells5 {H : Type} {enc : TypeId × Value → H} {W : World} {fuel : Nat} {t : TypeId} {f0 f1 f2 f3 f4 : Field} {l : List Value} {q : DataW H × List MemPlace} (ht : P.underlying t = some (.struct #[f0, f1, f2, f3, f4])) (ct : P.cellsOf t = 5)
    (o0 : f0.offset = 0) (o1 : f1.offset = 1) (o2 : f2.offset = 2) (o3 : f3.offset = 3) (o4 : f4.offset = 4)
    (c0 : P.cellsOf f0.type = 1) (c1 : P.cellsOf f1.type = 1) (c2 : P.cellsOf f2.type = 1) (c3 : P.cellsOf f3.type = 1) (c4 : P.cellsOf f4.type = 1)
    (u0 : P.underlying f0.type = some (.int .i64)) (u1 : P.underlying f1.type = some .bool) (u2 : P.underlying f2.type = some (.int .i64)) (u3 : P.underlying f3.type = some (.int .i64)) (u4 : P.underlying f4.type = some (.int .i64))
    (h : DataW.trod enc P W 0 (fun _ => true) true fuel t l = some q) : ∃ K o x y z, l = opL K o x y z := by
  obtain ⟨xs, n, _, _, hl, hlen, hf⟩ := DataW.trod_struct ht h
  rw [ct] at hl
  have hx : xs.length = 5 := hlen
  match xs, hx, l, hl with
  | [x0, x1, x2, x3, x4], _, [v0, v1, v2, v3, v4], _ =>
    have h0 := hf 0 f0 rfl
    have h1 := hf 1 f1 rfl
    have h2 := hf 2 f2 rfl
    have h3 := hf 3 f3 rfl
    have h4 := hf 4 f4 rfl
    rw [o0, c0] at h0
    rw [o1, c1] at h1
    rw [o2, c2] at h2
    rw [o3, c3] at h3
    rw [o4, c4] at h4
    obtain ⟨K, e0, _⟩ := DataW.trod_int u0 h0
    obtain ⟨o, e1, _⟩ := DataW.trod_bool u1 h1
    obtain ⟨x, e2, _⟩ := DataW.trod_int u2 h2
    obtain ⟨y, e3, _⟩ := DataW.trod_int u3 h3
    obtain ⟨z, e4, _⟩ := DataW.trod_int u4 h4
    simp at e0 e1 e2 e3 e4
    exact ⟨K, o, x, y, z, by rw [e0, e1, e2, e3, e4]⟩
end
theorem op_cells {H : Type} {enc : TypeId × Value → H} {W : World} {fuel : Nat} {l : List Value} {q : DataW H × List MemPlace} (h : DataW.trod enc Tryd.prog W 0 (fun _ => true) true fuel 26 l = some q) : ∃ K o x y z, l = opL K o x y z := by
  have t3 : Tryd.prog.underlying 3 = some (.int .i64) := by kernel_rfl
  have t4 : Tryd.prog.underlying 4 = some .bool := by kernel_rfl
  have t2 : Tryd.prog.underlying 2 = some (.int .i64) := by kernel_rfl
  have c3 : Tryd.prog.cellsOf 3 = 1 := by kernel_rfl
  have c4 : Tryd.prog.cellsOf 4 = 1 := by kernel_rfl
  have c2 : Tryd.prog.cellsOf 2 = 1 := by kernel_rfl
  have c26 : Tryd.prog.cellsOf 26 = 5 := by kernel_rfl
  exact cells5 Tryd.underlying26 c26 rfl rfl rfl rfl rfl c3 c4 c2 c2 c2 t3 t4 t2 t2 t2 h

/-! ### the row -/

theorem laid_fits (os : Os) : (World.holding Tryd.prog os ⟨#[], #[], []⟩).layFits Tryd.prog Rows.meterBoundsRow.laid [] = true := by kernel_rfl
theorem laid_ifaces (os : Os) : (World.holding Tryd.prog os ⟨#[], #[], []⟩).layIfaces Tryd.prog Rows.meterBoundsRow.laid (World.laidAll Tryd.prog os Rows.meterBoundsRow.laid) = true := by kernel_rfl
theorem laid_shaped (os : Os) : ((World.laidAll Tryd.prog os Rows.meterBoundsRow.laid).forCall (fun _ _ => 0) ⟨#[], #[.slice none 0 0, .bool false], []⟩).Shaped Tryd.prog := World.shaped_of_ZipB (by kernel_rfl) (by kernel_rfl)

set_option maxRecDepth 100000 in
theorem meterBounds_lifted (os : Os) (started : os.Started) (H : Type) (enc : TypeId × Value → H) :
    ReturnsInHanded {} Tryd.checked os 3 .any (fun w args => (Rows.meterBoundsSpec.pre enc Tryd.prog Tryd.f3 [] false w args ∧ laidMetH Tryd.prog Rows.meterBoundsRow.laid w) ∧ sizedMet enc Tryd.prog Tryd.f3 (OpenSpec.ofChange Rows.meterBoundsSpec) false w args)
      (Rows.meterBoundsSpec.post enc Tryd.prog Tryd.f3 false true false false) := by
  refine returnsInHanded_of_change_and (C := Tryd.checked) (X := fun w _ => laidMetH Tryd.prog Rows.meterBoundsRow.laid w) (fun _ _ _ hh h => h.of_heap hh) own_here started (by kernel_rfl) Tryd.func3
    (ChangeSpec.witness_shaped (enc := enc) (C := Tryd.checked) (os := os) (X := fun w _ => laidMetH Tryd.prog Rows.meterBoundsRow.laid w) false (World.laidAll Tryd.prog os Rows.meterBoundsRow.laid) #[.slice none 0 0, .bool false] 8 (World.laidAll_os _ _ _) (laid_shaped os) (by kernel_rfl) (by kernel_rfl) (by kernel_rfl)
      (by rw [MakeChecks.laidMetH_plain _ _ _ (by kernel_rfl)]; exact laidMet_laidAll _ (laid_fits os) (laid_ifaces os))) ?_
  intro W base args ds gs before hval0 hW _ hwt _ _
  have hval : ∀ (j : Nat) t v, Tryd.f3.params[j]? = some t → args[j]? = some v → Value.okWide Tryd.prog W .any base t v := hval0
  have hW' := hW
  obtain ⟨p, q, hA0, hV, rfl, hfz, hnd⟩ := hW
  have hA : DataW.TrodAll enc Tryd.prog W 0 (fun _ => true) true Tryd.f3.params.toList args.toList ds p := hA0
  rw [Tryd.params3] at hA hval
  obtain ⟨v0, vs, d0, ds', p0, q0, hargs, rfl, rfl, h0, r0⟩ := trodAll_cons hA
  obtain ⟨v1, vs', d1, ds'', p1, q1, rfl, rfl, rfl, h1, r1⟩ := trodAll_cons r0
  obtain ⟨rfl, rfl, rfl⟩ := trodAll_nil r1
  obtain rfl : args = #[v0, v1] := by cases args; simp_all
  obtain ⟨rfl, rfl⟩ := trodVars_none hV
  have t22 : Tryd.prog.underlying 22 = some (.slice 26) := Tryd.underlying22
  have c26 : Tryd.prog.cellsOf 26 = 5 := by kernel_rfl
  obtain ⟨q, rfl, rfl, rfl⟩ := open_bool (show Tryd.prog.underlying 4 = some .bool by kernel_rfl) (hval 1 4 v1 rfl rfl) h1
  have fin : ∀ e W', (e = Ending.returned (.bool true) ∧ Below W.heap.size W W') → ∃ v, e = Ending.returned v ∧ Rows.meterBoundsSpec.post enc Tryd.prog Tryd.f3 false true false false W #[v0, .bool q] v W' := fun e W' hen => by
    obtain ⟨rfl, hgr⟩ := hen
    exact ⟨_, rfl, post_true laidOut_here (by kernel_rfl) rfl rfl (show Tryd.prog.underlying 4 = some .bool by kernel_rfl) ⟨rfl, rfl, rfl⟩ hW' hgr⟩
  rcases rows_came t22 c26 (by omega) (hval 0 22 v0 rfl rfl) h0 with rfl | ⟨a, n, c, f, rfl, hnc, hf, hca, ls, ss, rfl, hlen⟩
  · exact bounds_nil.mono fin
  · have hw : (((ls.length + ss.length) * Tryd.prog.bytesOf 26) ≤ reachBytes) := by
      have := List.all_eq_true.1 hwt ((ls.length + ss.length) * Tryd.prog.bytesOf 26) (by
        have e : Tryd.f3.params.toList ++ Rows.meterBoundsSpec.plain.varTypes Tryd.prog = [22, 4] := by kernel_rfl
        have e2 : Tryd.checked.prog = Tryd.prog := rfl
        rw [e2, e]
        simp [DataW.weightsEach, DataW.weights, t22])
      simpa using this
    have b26 : Tryd.prog.bytesOf 26 = 40 := by kernel_rfl
    rw [b26, hlen] at hw
    have hrb : reachBytes = 140737488351232 := rfl
    have hop : ∀ i, i < c → ∃ K o x y z, f i = opL K o x y z := fun i hi => by
      obtain ⟨_, fuel, q, hq⟩ := hf i hi
      exact op_cells hq
    have hlf : ∀ i, i < c → (f i).length = 5 := fun i hi => (hf i hi).1
    have hfl : ∀ i, i < c → flatL (f i) = true := fun i hi => by
      obtain ⟨K, o, x, y, z, h⟩ := hop i hi
      rw [h]; rfl
    refine (bounds_call (flatR_flat hfl) (n := n) (c := c) (by omega) (fun k hk => ?_) (hca hfl)).mono fin
    obtain ⟨K, o, x, y, z, h⟩ := hop k (by omega)
    obtain ⟨q1, q2⟩ := flatR_take hlf (i := k) (by omega)
    have e : at5 (k : Int) = k * 5 := by unfold at5; rw [Int.toNat_natCast, Nat.zero_add]
    exact ⟨K, o, x, y, z, by rw [e]; exact q1, by rw [e, q2, h]⟩

theorem meterBounds_holds : Rows.MeterBoundsSaid :=
  OpenClaim.holds_of_wide 3 Tryd.f3 rfl rfl rfl rfl rfl rfl rfl ⟨rfl, rfl, rfl, rfl, rfl⟩ rfl rfl rfl rfl rfl (by kernel_rfl) Tryd.func3 (by kernel_rfl)
    (of_decide_eq_true (by kernel_rfl)) (by unfold Func.isWrapper; first | (rw [if_pos (by decide +kernel)]; kernel_rfl) | (rw [if_neg (by decide +kernel)]; exact ⟨rfl, rfl⟩))
    (fun os started H enc _ => meterBounds_lifted os started H enc)

theorem meterBounds_card : Rows.MeterBoundsCardSaid :=
  Claim7.holds_tied_plain_at .later [] _ _ _ _ meterBounds_holds (fun _ h => by cases h) (by kernel_rfl) (fun _ h => by cases h) meterBounds_row_tie rfl ⟨rfl, rfl⟩ (by kernel_rfl) rfl
    (fun f fn hf hfn => by
      obtain rfl : f = 3 := Option.some.inj ((show Tryd.prog.funcNamed "tether/tetherlaw25.MeterBounds" = some 3 by kernel_rfl).symm.trans hf) |>.symm
      obtain rfl : fn = Tryd.f3 := (Option.some.inj (Tryd.func3.symm.trans hfn)).symm
      exact ⟨by kernel_rfl, fun j t ht => by
        rw [Tryd.params3] at ht
        have hm : t ∈ [22, 4] := by simpa using Array.mem_of_getElem? ht
        have hall : ([22, 4].all fun u => !Tryd.prog.wantsStandIn u) = true := by kernel_rfl
        exact (show Tryd.prog.wantsStandIn t = false by simpa using List.all_eq_true.1 hall t hm)⟩)
    (by kernel_rfl)
#print axioms meterBounds_card
end Go.Proofs.YthidmnghdoipiaaDoor
