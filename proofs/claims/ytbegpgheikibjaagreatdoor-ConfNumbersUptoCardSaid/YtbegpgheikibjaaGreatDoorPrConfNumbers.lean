/- ConfNumbers where what it reads is of bulk at most 1048576: the law returns true, and each argument reads behind the call as it read before; condition: the listed package variables are laid as the row says. -/
import Derived.Test.YtbegpgheikibjaaGreatDoorRows
import Derived.Test.YtbegpgheikibjaaGreatDoorTie
import Derived.Test.YtbegpgheikibjaaGreatDoorCards
import Derived.Deep.DeepHandedRow
import Derived.LaidMore
import Derived.LaidHandle
import Derived.OpenShut
import Derived.Lay
import Derived.LaidLaws
import Derived.Stop.Joined
import Derived.SevenTiedAt
import Derived.Test.YtbegpgheikibjaaGreatDoorPrCnL
import Derived.Test.YtbegpgheikibjaaGreatDoorPrCnW
namespace Go.Proofs.YtbegpgheikibjaaGreatDoor
open Go Go.ChangeShapes Go.WideShapes Go.ChangeAt Go.WideMaps Go.WideElems Go.RowKit Go.Ev Go.Proofs.Cn

theorem laidOut_here : laidOutB Tryz.prog = true := by kernel_rfl
theorem own_here : ownKnob Tryz.prog.godebug = Option.none := by kernel_rfl

/-! ### how much comes in -/

theorem bulk_one {H : Type} (d : DataW H) : 1 ≤ Rows.uptoBulk d := by
  cases d with
  | lit l => cases l <;> simp [Rows.uptoBulk]
  | nil => simp [Rows.uptoBulk]
  | ptr d => simp [Rows.uptoBulk]
  | slice elems spare => simp [Rows.uptoBulk]
  | agg parts => simp [Rows.uptoBulk]
  | iface t d => simp [Rows.uptoBulk]
  | map entries => simp [Rows.uptoBulk]
  | held h => simp [Rows.uptoBulk]
theorem bulk_part {H : Type} {d : DataW H} : ∀ {l : List (DataW H)}, d ∈ l → Rows.uptoBulk d ≤ Rows.uptoBulkAll l
  | [], h => by cases h
  | x :: r, h => by
    simp only [Rows.uptoBulkAll]
    rcases List.mem_cons.1 h with rfl | h
    · omega
    · have := bulk_part h; omega
theorem bulk_length {H : Type} : ∀ l : List (DataW H), l.length ≤ Rows.uptoBulkAll l
  | [] => by simp [Rows.uptoBulkAll]
  | x :: r => by have := bulk_one x; have := bulk_length r; simp only [Rows.uptoBulkAll, List.length_cons]; omega
theorem bulk_slice {H : Type} (ls ss : List (DataW H)) : ls.length + ss.length ≤ Rows.uptoBulk (DataW.slice ls ss) := by
  have h2 := bulk_length ls
  have h3 := bulk_length ss
  simp only [Rows.uptoBulk]
  omega

/-! ### the row -/

noncomputable def laidWorld (os : Os) : World :=
  let w0 := World.laidAll Tryz.prog os (Rows.confNumbersUptoRow.laid.filter fun x => x.2.handleName?.isNone)
  { w0 with heap := w0.heap.modify 1 fun
      | .cells _ t fz => .cells #[Go.Proofs.Cw.tyV] t fz
      | o => o }
noncomputable abbrev wArgs : Array Value := #[.int .i64 0, .string ⟨#[]⟩, .int .u64 0]
set_option maxRecDepth 100000 in
theorem laid_met (os : Os) (args : Array Value) : laidMetH Tryz.prog Rows.confNumbersUptoRow.laid ((laidWorld os).forCall (fun _ _ => 0) ⟨#[], args, []⟩).memory :=
  laidMetH_of_parts (laidMet_of_run' 8 (by kernel_rfl) (by kernel_rfl)) (by kernel_rfl)
set_option maxRecDepth 100000 in
theorem laid_shaped (os : Os) : ((laidWorld os).forCall (fun _ _ => 0) ⟨#[], wArgs, []⟩).Shaped Tryz.prog := World.shaped_of_ZipB (by kernel_rfl) (by kernel_rfl)
set_option maxRecDepth 100000 in
theorem numbers_reads (os : Os) {H : Type} (enc : TypeId × Value → H) : ∃ places, DataW.whole enc Tryz.prog ((laidWorld os).forCall (fun _ _ => 0) ⟨#[], wArgs, []⟩).memory Tryz.f7.params.toList (Rows.OpenSpec.upto Rows.confNumbersSpec).vars false wArgs.toList 8 = some ([.lit (.int .i64 0), .lit (.string []), .lit (.int .u64 0)], [], places) :=
  ⟨[], by kernel_rfl⟩
set_option maxRecDepth 100000 in
theorem fits_here (os : Os) {H : Type} (enc : TypeId × Value → H) : ∃ (w : World) (tape : Tape) (i : Input), w.os = os ∧ (w.forCall tape i).Shaped Tryz.checked.prog ∧ i.vars = [] ∧ Input.okWide Tryz.checked.prog (w.forCall tape i) .any w.heap.size 7 i ∧
      (Rows.OpenSpec.upto Rows.confNumbersSpec).preRow enc Tryz.checked.prog Tryz.f7 Rows.confNumbersUptoRow.domain false Rows.confNumbersUptoRow.laid (w.forCall tape i).memory i.args ∧ ({} : Assume).holds Tryz.checked.prog (lone (Frame.enter Tryz.checked.prog 7 i.args .normal) [] (w.forCall tape i)) := by
  obtain ⟨places, hx⟩ := numbers_reads os enc
  have hok : Input.okWideB Tryz.checked.prog ((laidWorld os).forCall (fun _ _ => 0) ⟨#[], wArgs, []⟩) 7 ⟨#[], wArgs, []⟩ = true := by kernel_rfl
  refine ⟨laidWorld os, fun _ _ => 0, ⟨#[], wArgs, []⟩, World.laidAll_os _ _ _, laid_shaped os, rfl, (Input.okWide_of_okWideB hok).2,
    OpenSpec.preRow_of_cond 8 hx (by kernel_rfl) (fun k hk => by cases hk; kernel_rfl) (by kernel_rfl) (laid_met os _), ?_⟩
  simp only [Assume.holds]
  exact ⟨by simp, by simp, by simp, by simp, by simp⟩

set_option maxRecDepth 100000 in
theorem u64_in {W : World} {b0 : Nat} {z : Int} (ht : Tryz.prog.underlying 23 = some (.int .u64)) (hval : Value.okWide Tryz.prog W .any b0 23 (.int .u64 z)) : 0 ≤ z ∧ z < 18446744073709551616 := by
  unfold Value.okWide at hval
  rw [ht] at hval
  unfold Cell.okWide at hval
  rw [ht] at hval
  unfold Cell.ok at hval
  rw [ht] at hval
  have h : IntKind.u64.has z := by first | exact hval | exact hval.2
  have h1 : IntKind.u64.min ≤ z := h.1
  have h2 : z ≤ IntKind.u64.max := h.2
  have e1 : IntKind.u64.min = 0 := by decide
  have e2 : IntKind.u64.max = 18446744073709551615 := by decide
  omega
set_option maxRecDepth 100000 in
theorem u64_came {W : World} {b0 : Nat} {v : Value} (hval : Value.okWide Tryz.prog W .any b0 23 v) : ∃ n : Nat, n < 18446744073709551616 ∧ v = .int .u64 n := by
  have ht : Tryz.prog.underlying 23 = some (.int .u64) := by kernel_rfl
  obtain ⟨z, rfl⟩ := okWide_int (k := .u64) ht hval
  have h := u64_in ht hval
  exact ⟨z.toNat, by omega, by rw [Int.toNat_of_nonneg h.1]⟩
set_option maxRecDepth 100000 in
theorem confNumbers_lifted (os : Os) (started : os.Started) (H : Type) (enc : TypeId × Value → H) (F : Stop.Interp) :
    ReturnsInHanded {} Tryz.checked os 7 .any ((Rows.OpenSpec.upto Rows.confNumbersSpec).preRow enc Tryz.prog Tryz.f7 Rows.confNumbersUptoRow.domain false Rows.confNumbersUptoRow.laid) (((Rows.OpenSpec.upto Rows.confNumbersSpec).at F).post enc Tryz.prog Tryz.f7 false true false false) := by
  refine returnsInHanded_of_row (C := Tryz.checked) (s := Rows.OpenSpec.upto Rows.confNumbersSpec) own_here started (by kernel_rfl) Tryz.func7 (fits_here os enc) ?_
  intro W base args ds gs before hval0 hW _ hcond _ hL hS' _
  have hbulk : Rows.uptoSmall H (ds ++ gs) = true := hcond _ rfl
  have hval : ∀ (j : Nat) t v, Tryz.f7.params[j]? = some t → args[j]? = some v → Value.okWide Tryz.prog W .any base t v := hval0
  have hW' := hW
  obtain ⟨p, q, hA0, hV, rfl, hfz, hnd⟩ := hW
  have hA : DataW.TrodAll enc Tryz.prog W 0 (fun _ => true) true Tryz.f7.params.toList args.toList ds p := hA0
  rw [Tryz.params7] at hA hval
  obtain ⟨v0, vs, d0, ds', p0, q0, hargs, rfl, rfl, h0, r0⟩ := trodAll_cons hA
  obtain ⟨v1, vs', d1, ds'', p1, q1, rfl, rfl, rfl, h1, r1⟩ := trodAll_cons r0
  obtain ⟨v2, vs2, d2, ds2, p2, q2, rfl, rfl, rfl, h2, r2⟩ := trodAll_cons r1
  obtain ⟨rfl, rfl, rfl⟩ := trodAll_nil r2
  obtain rfl : args = #[v0, v1, v2] := by cases args; simp_all
  obtain ⟨rfl, rfl⟩ := trodVars_none hV
  obtain ⟨n0, rfl⟩ := okWide_int (k := .i64) (show Tryz.prog.underlying 2 = some (.int .i64) by kernel_rfl) (hval 0 2 v0 rfl rfl)
  obtain ⟨sx, rfl, rfl, rfl, _⟩ := Go.ChangeMaps.open_string Tryz.underlying9 (hval 1 9 v1 rfl rfl) h1
  obtain ⟨id, hid, rfl⟩ := u64_came (hval 2 23 v2 rfl rfl)
  have hall : sx.size ≤ 1048576 := by
    have : Rows.uptoBulkAll ([d0, .lit (.string sx.data.toList), d2] ++ [] : List (DataW H)) ≤ 1048576 := by simpa [Rows.uptoSmall] using hbulk
    simp only [List.append_nil, Rows.uptoBulkAll, Rows.uptoBulk] at this
    rw [Lib.size_eq]
    omega
  have hL' : laidMetH Tryz.prog laidL W := hL
  refine (numbers_law n0 sx id hall hid W (consts_here hL' hS') (deb_here hL') (known_calls hL' hS')).mono ?_
  rintro e W' ⟨rfl, hgr⟩
  exact ⟨_, rfl, post_true laidOut_here (by kernel_rfl) rfl rfl Tryz.underlying4 ⟨rfl, rfl, rfl⟩ hW' hgr⟩

set_option maxRecDepth 100000 in
theorem confNumbersUpto_holds : Rows.ConfNumbersUptoSaid :=
  OpenClaim.holds_of_cond 7 Tryz.f7 rfl rfl rfl rfl rfl rfl rfl ⟨rfl, rfl, rfl, rfl, rfl⟩ rfl rfl rfl rfl rfl (by kernel_rfl) Tryz.func7 (by kernel_rfl)
    (of_decide_eq_true (by kernel_rfl)) (by unfold Func.isWrapper; first | (rw [if_pos (by decide +kernel)]; kernel_rfl) | (rw [if_neg (by decide +kernel)]; exact ⟨rfl, rfl⟩))
    (fun os started H enc _ F => by rw [OpenClaim.pre_eq_preRow]; exact confNumbers_lifted os started H enc F)

set_option maxRecDepth 100000 in
theorem confNumbersUpto_card : Rows.ConfNumbersUptoCardSaid :=
  Claim7.holds_tied_plain_at .later [] _ _ _ _ confNumbersUpto_holds (fun _ h => by cases h) (by kernel_rfl) (fun _ h => by cases h) confNumbersUpto_row_tie rfl ⟨rfl, rfl⟩ (by kernel_rfl) rfl
    (fun f fn hf hfn => by
      obtain rfl : f = 7 := Option.some.inj ((show Tryz.prog.funcNamed "tether/tetherlaw05.ConfNumbers" = some 7 by kernel_rfl).symm.trans hf) |>.symm
      obtain rfl : fn = Tryz.f7 := (Option.some.inj (Tryz.func7.symm.trans hfn)).symm
      exact ⟨by kernel_rfl, fun j t ht => by
        rw [Tryz.params7] at ht
        have hm : t ∈ [2, 9, 23] := by simpa using Array.mem_of_getElem? ht
        have hall : ([2, 9, 23].all fun u => !Tryz.prog.wantsStandIn u) = true := by kernel_rfl
        exact (show Tryz.prog.wantsStandIn t = false by simpa using List.all_eq_true.1 hall t hm)⟩)
    (by kernel_rfl)
#print axioms confNumbersUpto_card
end Go.Proofs.YtbegpgheikibjaaGreatDoor
