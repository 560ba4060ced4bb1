/- SecretWrites where what it reads is of bulk at most 1048576: the law returns true, and each argument reads behind the call as it read before; condition: the listed package variables are laid as the row says. -/
import Derived.Test.YtnadimjglkodkaaGreatDoorRows
import Derived.Test.YtnadimjglkodkaaGreatDoorTie
import Derived.Test.YtnadimjglkodkaaGreatDoorCards
import Derived.Deep.DeepHandedRow
import Derived.LaidMore
import Derived.LaidHandle
import Derived.OpenShut
import Derived.Lay
import Derived.LaidLaws
import Derived.Stop.Joined
import Derived.SevenTiedAt
import Derived.Test.YtnadimjglkodkaaGreatDoorPrTyL
import Derived.Test.YtnadimjglkodkaaGreatDoorPrTwV
import Derived.Test.YtnadimjglkodkaaGreatDoorPrOpen
namespace Go.Proofs.YtnadimjglkodkaaGreatDoor
open Go Go.ChangeShapes Go.WideShapes Go.ChangeAt Go.WideMaps Go.WideElems Go.RowKit Go.Ev Go.Proofs.Sa Go.Proofs.Sr

theorem laidOut_here : laidOutB Tryz.prog = true := by kernel_rfl
theorem own_here : ownKnob Tryz.prog.godebug = Option.none := by kernel_rfl

/-- The listed variables are as they must be. -/
theorem env_here {W : World} (hl : laidMetH Tryz.prog laidL W) (hs : W.ShapedOpen Tryz.prog) : ∃ t pv, Env W t pv := by
  obtain ⟨a, t, fz, h1, _⟩ := sent_here hl errLine_mem (g := 0) (by kernel_rfl) (by kernel_rfl)
  exact ⟨226, .pointer (some a), consts_here hl hs, by simp only [World.cell?, h1]; rfl, start_here hl hs⟩

/-! ### how much comes in -/

theorem bulk_one {H : Type} (d : DataW H) : 1 ≤ Rows.uptoBulk d := by
  cases d with
  | lit l => cases l <;> simp [Rows.uptoBulk]
  | nil => simp [Rows.uptoBulk]
  | ptr d => simp [Rows.uptoBulk]
  | slice elems spare => simp [Rows.uptoBulk]
  | agg parts => simp [Rows.uptoBulk]
  | iface t d => simp [Rows.uptoBulk]
  | map entries => simp [Rows.uptoBulk]
  | held h => simp [Rows.uptoBulk]
theorem bulk_part {H : Type} {d : DataW H} : ∀ {l : List (DataW H)}, d ∈ l → Rows.uptoBulk d ≤ Rows.uptoBulkAll l
  | [], h => by cases h
  | x :: r, h => by
    simp only [Rows.uptoBulkAll]
    rcases List.mem_cons.1 h with rfl | h
    · omega
    · have := bulk_part h; omega
theorem bulk_length {H : Type} : ∀ l : List (DataW H), l.length ≤ Rows.uptoBulkAll l
  | [] => by simp [Rows.uptoBulkAll]
  | x :: r => by have := bulk_one x; have := bulk_length r; simp only [Rows.uptoBulkAll, List.length_cons]; omega
theorem bulk_slice {H : Type} (ls ss : List (DataW H)) : ls.length + ss.length ≤ Rows.uptoBulk (DataW.slice ls ss) := by
  have h2 := bulk_length ls
  have h3 := bulk_length ss
  simp only [Rows.uptoBulk]
  omega

/-! ### the row -/

noncomputable def laidWorld (os : Os) : World :=
  let w0 := World.laidAll Tryz.prog os (Rows.secretWritesUptoRow.laid.filter fun x => x.2.handleName?.isNone)
  { w0 with heap := w0.heap.modify 1 fun
      | .cells _ t fz => .cells #[tyV] t fz
      | o => o }
noncomputable abbrev wArgs : Array Value := #[.slice none 0 0]
set_option maxRecDepth 100000 in
theorem laid_met (os : Os) (args : Array Value) : laidMetH Tryz.prog Rows.secretWritesUptoRow.laid ((laidWorld os).forCall (fun _ _ => 0) ⟨#[], args, []⟩).memory :=
  laidMetH_of_parts (laidMet_of_run' 8 (by kernel_rfl) (by kernel_rfl)) (by kernel_rfl)
set_option maxRecDepth 100000 in
theorem laid_shaped (os : Os) : ((laidWorld os).forCall (fun _ _ => 0) ⟨#[], wArgs, []⟩).Shaped Tryz.prog := World.shaped_of_ZipB (by kernel_rfl) (by kernel_rfl)
set_option maxRecDepth 100000 in
theorem writes_reads (os : Os) {H : Type} (enc : TypeId × Value → H) : ∃ places, DataW.whole enc Tryz.prog ((laidWorld os).forCall (fun _ _ => 0) ⟨#[], wArgs, []⟩).memory Tryz.f6.params.toList (Rows.OpenSpec.upto Rows.secretWritesSpec).vars false wArgs.toList 8 = some ([.nil], [], places) :=
  ⟨[], by kernel_rfl⟩
set_option maxRecDepth 100000 in
theorem fits_here (os : Os) {H : Type} (enc : TypeId × Value → H) : ∃ (w : World) (tape : Tape) (i : Input), w.os = os ∧ (w.forCall tape i).Shaped Tryz.checked.prog ∧ i.vars = [] ∧ Input.okWide Tryz.checked.prog (w.forCall tape i) .any w.heap.size 6 i ∧
      (Rows.OpenSpec.upto Rows.secretWritesSpec).preRow enc Tryz.checked.prog Tryz.f6 Rows.secretWritesUptoRow.domain false Rows.secretWritesUptoRow.laid (w.forCall tape i).memory i.args ∧ ({} : Assume).holds Tryz.checked.prog (lone (Frame.enter Tryz.checked.prog 6 i.args .normal) [] (w.forCall tape i)) := by
  obtain ⟨places, hx⟩ := writes_reads os enc
  have hok : Input.okWideB Tryz.checked.prog ((laidWorld os).forCall (fun _ _ => 0) ⟨#[], wArgs, []⟩) 6 ⟨#[], wArgs, []⟩ = true := by kernel_rfl
  refine ⟨laidWorld os, fun _ _ => 0, ⟨#[], wArgs, []⟩, World.laidAll_os _ _ _, laid_shaped os, rfl, (Input.okWide_of_okWideB hok).2,
    OpenSpec.preRow_of_cond 8 hx (by kernel_rfl) (fun k hk => by cases hk; kernel_rfl) (by kernel_rfl) (laid_met os _), ?_⟩
  simp only [Assume.holds]
  exact ⟨by simp, by simp, by simp, by simp, by simp⟩

set_option maxRecDepth 100000 in
theorem secs_came {W : World} {b0 : Nat} {H : Type} {enc : TypeId × Value → H} {v : Value} {d : DataW H} {ps : List MemPlace} (hval : Value.okWide Tryz.prog W .any b0 48 v) (hd : DataW.Trod enc Tryz.prog W 0 (fun _ => true) true 48 v d ps) :
    ∃ (ao : Option Addr) (n cap : Nat) (l : List Sec), v = .slice ao n cap ∧ Secs W ao n l ∧ n ≤ cap ∧ (ao = Option.none → cap = 0) ∧ cap + 1 ≤ Rows.uptoBulk d + 1 ∧ ∀ x ∈ l, x.n ≤ x.cap ∧ x.cap ≤ Rows.uptoBulk d ∧ (x.ao = Option.none → x.cap = 0) := by
  have hu : ∃ f0 f1 f2 f3 : Field, Tryz.prog.underlying 93 = some (.struct #[f0, f1, f2, f3]) ∧ (f0.type, f0.offset) = (9, 0) ∧ (f1.type, f1.offset) = (9, 1) ∧ (f2.type, f2.offset) = (9, 2) ∧ (f3.type, f3.offset) = (22, 3) := ⟨_, _, _, _, Tryz.underlying93, rfl, rfl, rfl, rfl⟩
  obtain ⟨f0, f1, f2, f3, hu, g0, g1, g2, g3⟩ := hu
  have h9 : Tryz.prog.underlying 9 = some .string := by kernel_rfl
  have h25 : Tryz.prog.underlying 48 = some (.slice 93) := by kernel_rfl
  have h22 : Tryz.prog.underlying 22 = some (.slice 2) := by kernel_rfl
  have h2 : Tryz.prog.underlying 2 = some (.int .i64) := by kernel_rfl
  obtain ⟨a, n0, c0, rfl⟩ := okWide_slice h25 hval
  obtain ⟨fuel, hf⟩ := hd
  obtain ⟨ao, n, cap, l, hcs, hS, hnc, hcm, hnil, hT, hD⟩ := secs_trod h25 hu g0 g1 g2 g3 h9 (by kernel_rfl) h22 (by kernel_rfl) h2 (by kernel_rfl) (by kernel_rfl) hf
  have hv : [Value.slice a n0 c0] = [Value.slice ao n cap] := hcs
  cases hv
  refine ⟨a, n0, c0, l, rfl, hS, hnc, hnil, ?_, fun x hx => ?_⟩
  · rcases hD with ⟨_, rfl⟩ | ⟨ls, ss, rfl, hlen, _⟩
    · omega
    · have := bulk_slice ls ss
      omega
  · obtain ⟨i, hi⟩ := List.getElem?_of_mem hx
    rcases hD with ⟨_, rfl⟩ | ⟨ls, ss, rfl, _, hall⟩
    · have : l.length = n0 := hS.len
      have : i < l.length := (List.getElem?_eq_some_iff.1 hi).1
      omega
    · obtain ⟨e, he, _, _, _, dl, rfl, hdl⟩ := hall i x hi
      have h1 := bulk_part (List.mem_of_getElem? he)
      have h3 : x.cap ≤ Rows.uptoBulk dl := by
        rcases hdl with ⟨_, h⟩ | ⟨ls', ss', rfl, h⟩
        · omega
        · have := bulk_slice ls' ss'
          omega
      have h4 := (hT x hx).fits.1
      refine ⟨h4, ?_, (hT x hx).bare⟩
      simp only [Rows.uptoBulk, Rows.uptoBulkAll] at h1 ⊢
      omega

set_option maxRecDepth 100000 in
theorem secretWrites_lifted (os : Os) (started : os.Started) (H : Type) (enc : TypeId × Value → H) (F : Stop.Interp) :
    ReturnsInHanded {} Tryz.checked os 6 .any ((Rows.OpenSpec.upto Rows.secretWritesSpec).preRow enc Tryz.prog Tryz.f6 Rows.secretWritesUptoRow.domain false Rows.secretWritesUptoRow.laid) (((Rows.OpenSpec.upto Rows.secretWritesSpec).at F).post enc Tryz.prog Tryz.f6 false true false false) := by
  refine returnsInHanded_of_row (C := Tryz.checked) (s := Rows.OpenSpec.upto Rows.secretWritesSpec) own_here started (by kernel_rfl) Tryz.func6 (fits_here os enc) ?_
  intro W base args ds gs before hval0 hW _ hcond _ hL hS' _
  have hbulk : Rows.uptoSmall H (ds ++ gs) = true := hcond _ rfl
  have hval : ∀ (j : Nat) t v, Tryz.f6.params[j]? = some t → args[j]? = some v → Value.okWide Tryz.prog W .any base t v := hval0
  have hW' := hW
  obtain ⟨p, q, hA0, hV, rfl, hfz, hnd⟩ := hW
  have hA : DataW.TrodAll enc Tryz.prog W 0 (fun _ => true) true Tryz.f6.params.toList args.toList ds p := hA0
  rw [Tryz.params6] at hA hval
  obtain ⟨v0, vs, d0, ds', p0, q0, hargs, rfl, rfl, h0, r0⟩ := trodAll_cons hA
  obtain ⟨rfl, rfl, rfl⟩ := trodAll_nil r0
  obtain rfl : args = #[v0] := by cases args; simp_all
  obtain ⟨rfl, rfl⟩ := trodVars_none hV
  obtain ⟨ao, n, cap, l, rfl, hS, hnc, hnil, hb0, hbn⟩ := secs_came (hval 0 48 v0 rfl rfl) h0
  have hall : Rows.uptoBulk d0 ≤ 1048576 := by
    have : Rows.uptoBulkAll ([d0] ++ [] : List (DataW H)) ≤ 1048576 := by simpa [Rows.uptoSmall] using hbulk
    simp only [List.append_nil, Rows.uptoBulkAll] at this
    omega
  have hL' : laidMetH Tryz.prog laidL W := hL
  obtain ⟨t, pv, hE⟩ := env_here hL' hS'
  refine (writes_law ao n cap l t pv W hE hS (by omega) (fun x hx => by have := hbn x hx; omega) (fun x hx => (hbn x hx).2.2) (fun x hx => ⟨(hbn x hx).1, by have := hbn x hx; omega⟩) (awake_calls hL' hS')).mono ?_
  rintro e W' ⟨rfl, hgr⟩
  exact ⟨_, rfl, post_true laidOut_here (by kernel_rfl) rfl rfl Tryz.underlying4 ⟨rfl, rfl, rfl⟩ hW' hgr⟩

theorem secretWritesUpto_holds : Rows.SecretWritesUptoSaid :=
  OpenClaim.holds_of_cond 6 Tryz.f6 rfl rfl rfl rfl rfl rfl rfl ⟨rfl, rfl, rfl, rfl, rfl⟩ rfl rfl rfl rfl rfl (by kernel_rfl) Tryz.func6 (by kernel_rfl)
    (of_decide_eq_true (by kernel_rfl)) (by unfold Func.isWrapper; first | (rw [if_pos (by decide +kernel)]; kernel_rfl) | (rw [if_neg (by decide +kernel)]; exact ⟨rfl, rfl⟩))
    (fun os started H enc _ F => by rw [OpenClaim.pre_eq_preRow]; exact secretWrites_lifted os started H enc F)

theorem secretWritesUpto_card : Rows.SecretWritesUptoCardSaid :=
  Claim7.holds_tied_plain_at .later [] _ _ _ _ secretWritesUpto_holds (fun _ h => by cases h) (by kernel_rfl) (fun _ h => by cases h) secretWritesUpto_row_tie rfl ⟨rfl, rfl⟩ (by kernel_rfl) rfl
    (fun f fn hf hfn => by
      obtain rfl : f = 6 := Option.some.inj ((show Tryz.prog.funcNamed "tether/tetherlaw06.SecretWrites" = some 6 by kernel_rfl).symm.trans hf) |>.symm
      obtain rfl : fn = Tryz.f6 := (Option.some.inj (Tryz.func6.symm.trans hfn)).symm
      exact ⟨by kernel_rfl, fun j t ht => by
        rw [Tryz.params6] at ht
        have hm : t ∈ [48] := by simpa using Array.mem_of_getElem? ht
        have hall : ([48].all fun u => !Tryz.prog.wantsStandIn u) = true := by kernel_rfl
        exact (show Tryz.prog.wantsStandIn t = false by simpa using List.all_eq_true.1 hall t hm)⟩)
    (by kernel_rfl)
#print axioms secretWritesUpto_card
end Go.Proofs.YtnadimjglkodkaaGreatDoor
