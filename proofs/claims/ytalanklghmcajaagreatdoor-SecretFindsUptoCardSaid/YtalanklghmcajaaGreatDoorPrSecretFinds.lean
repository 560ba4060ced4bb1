/- SecretFinds where what it reads is of bulk at most 1048576: the law returns true, and each argument reads behind the call as it read before; condition: the listed package variables are laid as the row says. -/
import Derived.Test.YtalanklghmcajaaGreatDoorRows
import Derived.Test.YtalanklghmcajaaGreatDoorTie
import Derived.Test.YtalanklghmcajaaGreatDoorCards
import Derived.Deep.DeepHandedRow
import Derived.LaidMore
import Derived.LaidHandle
import Derived.OpenShut
import Derived.Lay
import Derived.LaidLaws
import Derived.Stop.Joined
import Derived.SevenTiedAt
import Derived.Test.YtalanklghmcajaaGreatDoorPrSfL
import Derived.Test.YtalanklghmcajaaGreatDoorPrSaW
import Derived.Test.YtalanklghmcajaaGreatDoorPrOpen
namespace Go.Proofs.YtalanklghmcajaaGreatDoor
open Go Go.ChangeShapes Go.WideShapes Go.ChangeAt Go.WideMaps Go.WideElems Go.RowKit Go.Ev Go.Proofs.Sa

theorem laidOut_here : laidOutB Tryz.prog = true := by kernel_rfl
theorem own_here : ownKnob Tryz.prog.godebug = Option.none := by kernel_rfl

/-! ### how much comes in -/

theorem bulk_one {H : Type} (d : DataW H) : 1 ≤ Rows.uptoBulk d := by
  cases d with
  | lit l => cases l <;> simp [Rows.uptoBulk]
  | nil => simp [Rows.uptoBulk]
  | ptr d => simp [Rows.uptoBulk]
  | slice elems spare => simp [Rows.uptoBulk]
  | agg parts => simp [Rows.uptoBulk]
  | iface t d => simp [Rows.uptoBulk]
  | map entries => simp [Rows.uptoBulk]
  | held h => simp [Rows.uptoBulk]
theorem bulk_part {H : Type} {d : DataW H} : ∀ {l : List (DataW H)}, d ∈ l → Rows.uptoBulk d ≤ Rows.uptoBulkAll l
  | [], h => by cases h
  | x :: r, h => by
    simp only [Rows.uptoBulkAll]
    rcases List.mem_cons.1 h with rfl | h
    · omega
    · have := bulk_part h; omega
theorem bulk_length {H : Type} : ∀ l : List (DataW H), l.length ≤ Rows.uptoBulkAll l
  | [] => by simp [Rows.uptoBulkAll]
  | x :: r => by have := bulk_one x; have := bulk_length r; simp only [Rows.uptoBulkAll, List.length_cons]; omega
theorem bulk_slice {H : Type} (ls ss : List (DataW H)) : ls.length + ss.length ≤ Rows.uptoBulk (DataW.slice ls ss) := by
  have h2 := bulk_length ls
  have h3 := bulk_length ss
  simp only [Rows.uptoBulk]
  omega

/-! ### the row -/

noncomputable def laidWorld (os : Os) : World :=
  let w0 := World.laidAll Tryz.prog os (Rows.secretFindsUptoRow.laid.filter fun x => x.2.handleName?.isNone)
  { w0 with heap := w0.heap.modify 1 fun
      | .cells _ t fz => .cells #[tyV] t fz
      | o => o }
noncomputable abbrev wArgs : Array Value := #[.slice none 0 0, .slice none 0 0, .string ⟨#[]⟩, .string ⟨#[]⟩, .string ⟨#[]⟩, .int .i64 0]
set_option maxRecDepth 100000 in
theorem laid_met (os : Os) (args : Array Value) : laidMetH Tryz.prog Rows.secretFindsUptoRow.laid ((laidWorld os).forCall (fun _ _ => 0) ⟨#[], args, []⟩).memory :=
  laidMetH_of_parts (laidMet_of_run' 8 (by kernel_rfl) (by kernel_rfl)) (by kernel_rfl)
set_option maxRecDepth 100000 in
theorem laid_shaped (os : Os) : ((laidWorld os).forCall (fun _ _ => 0) ⟨#[], wArgs, []⟩).Shaped Tryz.prog := World.shaped_of_ZipB (by kernel_rfl) (by kernel_rfl)
set_option maxRecDepth 100000 in
theorem finds_reads (os : Os) {H : Type} (enc : TypeId × Value → H) : ∃ places, DataW.whole enc Tryz.prog ((laidWorld os).forCall (fun _ _ => 0) ⟨#[], wArgs, []⟩).memory Tryz.f4.params.toList (Rows.OpenSpec.upto Rows.secretFindsSpec).vars false wArgs.toList 8 = some ([.nil, .nil, .lit (.string []), .lit (.string []), .lit (.string []), .lit (.int .i64 0)], [], places) :=
  ⟨[], by kernel_rfl⟩
set_option maxRecDepth 100000 in
theorem fits_here (os : Os) {H : Type} (enc : TypeId × Value → H) : ∃ (w : World) (tape : Tape) (i : Input), w.os = os ∧ (w.forCall tape i).Shaped Tryz.checked.prog ∧ i.vars = [] ∧ Input.okWide Tryz.checked.prog (w.forCall tape i) .any w.heap.size 4 i ∧
      (Rows.OpenSpec.upto Rows.secretFindsSpec).preRow enc Tryz.checked.prog Tryz.f4 Rows.secretFindsUptoRow.domain false Rows.secretFindsUptoRow.laid (w.forCall tape i).memory i.args ∧ ({} : Assume).holds Tryz.checked.prog (lone (Frame.enter Tryz.checked.prog 4 i.args .normal) [] (w.forCall tape i)) := by
  obtain ⟨places, hx⟩ := finds_reads os enc
  have hok : Input.okWideB Tryz.checked.prog ((laidWorld os).forCall (fun _ _ => 0) ⟨#[], wArgs, []⟩) 4 ⟨#[], wArgs, []⟩ = true := by kernel_rfl
  refine ⟨laidWorld os, fun _ _ => 0, ⟨#[], wArgs, []⟩, World.laidAll_os _ _ _, laid_shaped os, rfl, (Input.okWide_of_okWideB hok).2,
    OpenSpec.preRow_of_cond 8 hx (by kernel_rfl) (fun k hk => by cases hk; kernel_rfl) (by kernel_rfl) (laid_met os _), ?_⟩
  simp only [Assume.holds]
  exact ⟨by simp, by simp, by simp, by simp, by simp⟩

set_option maxRecDepth 100000 in
theorem secs_came {W : World} {b0 : Nat} {H : Type} {enc : TypeId × Value → H} {v : Value} {d : DataW H} {ps : List MemPlace} (hval : Value.okWide Tryz.prog W .any b0 25 v) (hd : DataW.Trod enc Tryz.prog W 0 (fun _ => true) true 25 v d ps) :
    ∃ (ao : Option Addr) (n cap : Nat) (l : List Sec), v = .slice ao n cap ∧ Secs W ao n l ∧ n ≤ cap ∧ (ao = Option.none → cap = 0) ∧ cap + 1 ≤ Rows.uptoBulk d + 1 ∧ ∀ x ∈ l, x.n ≤ x.cap ∧ x.cap ≤ Rows.uptoBulk d ∧ (x.ao = Option.none → x.cap = 0) := by
  have hu : ∃ f0 f1 f2 f3 : Field, Tryz.prog.underlying 24 = some (.struct #[f0, f1, f2, f3]) ∧ (f0.type, f0.offset) = (9, 0) ∧ (f1.type, f1.offset) = (9, 1) ∧ (f2.type, f2.offset) = (9, 2) ∧ (f3.type, f3.offset) = (22, 3) := ⟨_, _, _, _, Tryz.underlying24, rfl, rfl, rfl, rfl⟩
  obtain ⟨f0, f1, f2, f3, hu, g0, g1, g2, g3⟩ := hu
  have h9 : Tryz.prog.underlying 9 = some .string := by kernel_rfl
  have h25 : Tryz.prog.underlying 25 = some (.slice 24) := by kernel_rfl
  have h22 : Tryz.prog.underlying 22 = some (.slice 2) := by kernel_rfl
  have h2 : Tryz.prog.underlying 2 = some (.int .i64) := by kernel_rfl
  obtain ⟨a, n0, c0, rfl⟩ := okWide_slice h25 hval
  obtain ⟨fuel, hf⟩ := hd
  obtain ⟨ao, n, cap, l, hcs, hS, hnc, hcm, hnil, hT, hD⟩ := secs_trod h25 hu g0 g1 g2 g3 h9 (by kernel_rfl) h22 (by kernel_rfl) h2 (by kernel_rfl) (by kernel_rfl) hf
  have hv : [Value.slice a n0 c0] = [Value.slice ao n cap] := hcs
  cases hv
  refine ⟨a, n0, c0, l, rfl, hS, hnc, hnil, ?_, fun x hx => ?_⟩
  · rcases hD with ⟨_, rfl⟩ | ⟨ls, ss, rfl, hlen, _⟩
    · omega
    · have := bulk_slice ls ss
      omega
  · obtain ⟨i, hi⟩ := List.getElem?_of_mem hx
    rcases hD with ⟨_, rfl⟩ | ⟨ls, ss, rfl, _, hall⟩
    · have : l.length = n0 := hS.len
      have : i < l.length := (List.getElem?_eq_some_iff.1 hi).1
      omega
    · obtain ⟨e, he, _, _, _, dl, rfl, hdl⟩ := hall i x hi
      have h1 := bulk_part (List.mem_of_getElem? he)
      have h3 : x.cap ≤ Rows.uptoBulk dl := by
        rcases hdl with ⟨_, h⟩ | ⟨ls', ss', rfl, h⟩
        · omega
        · have := bulk_slice ls' ss'
          omega
      have h4 := (hT x hx).fits.1
      refine ⟨h4, ?_, (hT x hx).bare⟩
      simp only [Rows.uptoBulk, Rows.uptoBulkAll] at h1 ⊢
      omega

set_option maxRecDepth 100000 in
theorem secretFinds_lifted (os : Os) (started : os.Started) (H : Type) (enc : TypeId × Value → H) (F : Stop.Interp) :
    ReturnsInHanded {} Tryz.checked os 4 .any ((Rows.OpenSpec.upto Rows.secretFindsSpec).preRow enc Tryz.prog Tryz.f4 Rows.secretFindsUptoRow.domain false Rows.secretFindsUptoRow.laid) (((Rows.OpenSpec.upto Rows.secretFindsSpec).at F).post enc Tryz.prog Tryz.f4 false true false false) := by
  refine returnsInHanded_of_row (C := Tryz.checked) (s := Rows.OpenSpec.upto Rows.secretFindsSpec) own_here started (by kernel_rfl) Tryz.func4 (fits_here os enc) ?_
  intro W base args ds gs before hval0 hW _ hcond _ hL hS' _
  have hbulk : Rows.uptoSmall H (ds ++ gs) = true := hcond _ rfl
  have hval : ∀ (j : Nat) t v, Tryz.f4.params[j]? = some t → args[j]? = some v → Value.okWide Tryz.prog W .any base t v := hval0
  have hW' := hW
  obtain ⟨p, q, hA0, hV, rfl, hfz, hnd⟩ := hW
  have hA : DataW.TrodAll enc Tryz.prog W 0 (fun _ => true) true Tryz.f4.params.toList args.toList ds p := hA0
  rw [Tryz.params4] at hA hval
  obtain ⟨v0, vs, d0, ds', p0, q0, hargs, rfl, rfl, h0, r0⟩ := trodAll_cons hA
  obtain ⟨v1, vs', d1, ds'', p1, q1, rfl, rfl, rfl, h1, r1⟩ := trodAll_cons r0
  obtain ⟨v2, vs2, d2, ds2, p2, q2, rfl, rfl, rfl, h2, r2⟩ := trodAll_cons r1
  obtain ⟨v3, vs3, d3, ds3, p3, q3, rfl, rfl, rfl, h3, r3⟩ := trodAll_cons r2
  obtain ⟨v4, vs4, d4, ds4, p4, q4, rfl, rfl, rfl, h4, r4⟩ := trodAll_cons r3
  obtain ⟨v5, vs5, d5, ds5, p5, q5, rfl, rfl, rfl, h5, r5⟩ := trodAll_cons r4
  obtain ⟨rfl, rfl, rfl⟩ := trodAll_nil r5
  obtain rfl : args = #[v0, v1, v2, v3, v4, v5] := by cases args; simp_all
  obtain ⟨rfl, rfl⟩ := trodVars_none hV
  obtain ⟨ao, n, cap, l, rfl, hS, hnc, hnil, hb0, hbn⟩ := secs_came (hval 0 25 v0 rfl rfl) h0
  obtain ⟨bo, m, cb, more, rfl, hM, _, _, _, _⟩ := secs_came (hval 1 25 v1 rfl rfl) h1
  obtain ⟨cl, rfl, rfl, rfl, _⟩ := Go.ChangeMaps.open_string Tryz.underlying9 (hval 2 9 v2 rfl rfl) h2
  obtain ⟨sv, rfl, rfl, rfl, _⟩ := Go.ChangeMaps.open_string Tryz.underlying9 (hval 3 9 v3 rfl rfl) h3
  obtain ⟨word, rfl, rfl, rfl, _⟩ := Go.ChangeMaps.open_string Tryz.underlying9 (hval 4 9 v4 rfl rfl) h4
  obtain ⟨adr, rfl⟩ := okWide_int (k := .i64) (show Tryz.prog.underlying 2 = some (.int .i64) by kernel_rfl) (hval 5 2 v5 rfl rfl)
  have hall : Rows.uptoBulk d0 ≤ 1048576 := by
    have : Rows.uptoBulkAll ([d0, d1, .lit (.string cl.data.toList), .lit (.string sv.data.toList), .lit (.string word.data.toList), d5] ++ [] : List (DataW H)) ≤ 1048576 := by simpa [Rows.uptoSmall] using hbulk
    simp only [List.append_nil, Rows.uptoBulkAll] at this
    omega
  have hL' : laidMetH Tryz.prog laidL W := hL
  refine (finds_law ao bo n cap m cb l more cl sv word adr W hS hM (by omega) (fun x hx => by have := hbn x hx; omega) (fun x hx => (hbn x hx).2.2) (fun x hx => ⟨(hbn x hx).1, by have := hbn x hx; omega⟩) (awake_calls hL' hS')).mono ?_
  rintro e W' ⟨rfl, hgr⟩
  exact ⟨_, rfl, post_true laidOut_here (by kernel_rfl) rfl rfl Tryz.underlying4 ⟨rfl, rfl, rfl⟩ hW' hgr⟩

theorem secretFindsUpto_holds : Rows.SecretFindsUptoSaid :=
  OpenClaim.holds_of_cond 4 Tryz.f4 rfl rfl rfl rfl rfl rfl rfl ⟨rfl, rfl, rfl, rfl, rfl⟩ rfl rfl rfl rfl rfl (by kernel_rfl) Tryz.func4 (by kernel_rfl)
    (of_decide_eq_true (by kernel_rfl)) (by unfold Func.isWrapper; first | (rw [if_pos (by decide +kernel)]; kernel_rfl) | (rw [if_neg (by decide +kernel)]; exact ⟨rfl, rfl⟩))
    (fun os started H enc _ F => by rw [OpenClaim.pre_eq_preRow]; exact secretFinds_lifted os started H enc F)

theorem secretFindsUpto_card : Rows.SecretFindsUptoCardSaid :=
  Claim7.holds_tied_plain_at .later [] _ _ _ _ secretFindsUpto_holds (fun _ h => by cases h) (by kernel_rfl) (fun _ h => by cases h) secretFindsUpto_row_tie rfl ⟨rfl, rfl⟩ (by kernel_rfl) rfl
    (fun f fn hf hfn => by
      obtain rfl : f = 4 := Option.some.inj ((show Tryz.prog.funcNamed "tether/tetherlaw06.SecretFinds" = some 4 by kernel_rfl).symm.trans hf) |>.symm
      obtain rfl : fn = Tryz.f4 := (Option.some.inj (Tryz.func4.symm.trans hfn)).symm
      exact ⟨by kernel_rfl, fun j t ht => by
        rw [Tryz.params4] at ht
        have hm : t ∈ [25, 25, 9, 9, 9, 2] := by simpa using Array.mem_of_getElem? ht
        have hall : ([25, 25, 9, 9, 9, 2].all fun u => !Tryz.prog.wantsStandIn u) = true := by kernel_rfl
        exact (show Tryz.prog.wantsStandIn t = false by simpa using List.all_eq_true.1 hall t hm)⟩)
    (by kernel_rfl)
#print axioms secretFindsUpto_card
end Go.Proofs.YtalanklghmcajaaGreatDoor
