/- SecretAddrs where what it reads is of bulk at most 1048576: the law returns true, and each argument reads behind the call as it read before; condition: the listed package variables are laid as the row says. -/
import Derived.Test.YtalanklghmcajaaGreatDoorRows
import Derived.Test.YtalanklghmcajaaGreatDoorTie
import Derived.Test.YtalanklghmcajaaGreatDoorCards
import Derived.Deep.DeepHandedRow
import Derived.LaidMore
import Derived.LaidHandle
import Derived.OpenShut
import Derived.Lay
import Derived.LaidLaws
import Derived.Stop.Joined
import Derived.SevenTiedAt
import Derived.Test.YtalanklghmcajaaGreatDoorPrSaN
import Derived.Test.YtalanklghmcajaaGreatDoorPrSaW
namespace Go.Proofs.YtalanklghmcajaaGreatDoor
open Go Go.ChangeShapes Go.WideShapes Go.ChangeAt Go.WideMaps Go.WideElems Go.RowKit Go.Ev Go.Proofs.Sa

theorem laidOut_here : laidOutB Tryz.prog = true := by kernel_rfl
theorem own_here : ownKnob Tryz.prog.godebug = Option.none := by kernel_rfl

/-! ### how much comes in -/

theorem bulk_one {H : Type} (d : DataW H) : 1 ≤ Rows.uptoBulk d := by
  cases d with
  | lit l => cases l <;> simp [Rows.uptoBulk]
  | nil => simp [Rows.uptoBulk]
  | ptr d => simp [Rows.uptoBulk]
  | slice elems spare => simp [Rows.uptoBulk]
  | agg parts => simp [Rows.uptoBulk]
  | iface t d => simp [Rows.uptoBulk]
  | map entries => simp [Rows.uptoBulk]
  | held h => simp [Rows.uptoBulk]
theorem bulk_part {H : Type} {d : DataW H} : ∀ {l : List (DataW H)}, d ∈ l → Rows.uptoBulk d ≤ Rows.uptoBulkAll l
  | [], h => by cases h
  | x :: r, h => by
    simp only [Rows.uptoBulkAll]
    rcases List.mem_cons.1 h with rfl | h
    · omega
    · have := bulk_part h; omega
theorem bulk_length {H : Type} : ∀ l : List (DataW H), l.length ≤ Rows.uptoBulkAll l
  | [] => by simp [Rows.uptoBulkAll]
  | x :: r => by have := bulk_one x; have := bulk_length r; simp only [Rows.uptoBulkAll, List.length_cons]; omega
theorem bulk_slice {H : Type} (ls ss : List (DataW H)) : ls.length + ss.length ≤ Rows.uptoBulk (DataW.slice ls ss) := by
  have h2 := bulk_length ls
  have h3 := bulk_length ss
  simp only [Rows.uptoBulk]
  omega

/-! ### the row -/

noncomputable def laidWorld (os : Os) : World :=
  let w0 := World.laidAll Tryz.prog os (Rows.secretAddrsUptoRow.laid.filter fun x => x.2.handleName?.isNone)
  { w0 with heap := w0.heap.modify 1 fun
      | .cells _ t fz => .cells #[tyV] t fz
      | o => o }
noncomputable abbrev wArgs : Array Value := #[.agg #[.string ⟨#[]⟩, .string ⟨#[]⟩, .string ⟨#[]⟩, .slice none 0 0], .string ⟨#[]⟩, .int .i64 0]
set_option maxRecDepth 100000 in
theorem laid_met (os : Os) (args : Array Value) : laidMetH Tryz.prog Rows.secretAddrsUptoRow.laid ((laidWorld os).forCall (fun _ _ => 0) ⟨#[], args, []⟩).memory :=
  laidMetH_of_parts (laidMet_of_run' 8 (by kernel_rfl) (by kernel_rfl)) (by kernel_rfl)
set_option maxRecDepth 100000 in
theorem laid_shaped (os : Os) : ((laidWorld os).forCall (fun _ _ => 0) ⟨#[], wArgs, []⟩).Shaped Tryz.prog := World.shaped_of_ZipB (by kernel_rfl) (by kernel_rfl)
set_option maxRecDepth 100000 in
theorem addrs_reads (os : Os) {H : Type} (enc : TypeId × Value → H) : ∃ places, DataW.whole enc Tryz.prog ((laidWorld os).forCall (fun _ _ => 0) ⟨#[], wArgs, []⟩).memory Tryz.f3.params.toList (Rows.OpenSpec.upto Rows.secretAddrsSpec).vars false wArgs.toList 8 = some ([.agg [.lit (.string []), .lit (.string []), .lit (.string []), .nil], .lit (.string []), .lit (.int .i64 0)], [], places) :=
  ⟨[], by kernel_rfl⟩
set_option maxRecDepth 100000 in
theorem fits_here (os : Os) {H : Type} (enc : TypeId × Value → H) : ∃ (w : World) (tape : Tape) (i : Input), w.os = os ∧ (w.forCall tape i).Shaped Tryz.checked.prog ∧ i.vars = [] ∧ Input.okWide Tryz.checked.prog (w.forCall tape i) .any w.heap.size 3 i ∧
      (Rows.OpenSpec.upto Rows.secretAddrsSpec).preRow enc Tryz.checked.prog Tryz.f3 Rows.secretAddrsUptoRow.domain false Rows.secretAddrsUptoRow.laid (w.forCall tape i).memory i.args ∧ ({} : Assume).holds Tryz.checked.prog (lone (Frame.enter Tryz.checked.prog 3 i.args .normal) [] (w.forCall tape i)) := by
  obtain ⟨places, hx⟩ := addrs_reads os enc
  have hok : Input.okWideB Tryz.checked.prog ((laidWorld os).forCall (fun _ _ => 0) ⟨#[], wArgs, []⟩) 3 ⟨#[], wArgs, []⟩ = true := by kernel_rfl
  refine ⟨laidWorld os, fun _ _ => 0, ⟨#[], wArgs, []⟩, World.laidAll_os _ _ _, laid_shaped os, rfl, (Input.okWide_of_okWideB hok).2,
    OpenSpec.preRow_of_cond 8 hx (by kernel_rfl) (fun k hk => by cases hk; kernel_rfl) (by kernel_rfl) (laid_met os _), ?_⟩
  simp only [Assume.holds]
  exact ⟨by simp, by simp, by simp, by simp, by simp⟩

set_option maxRecDepth 100000 in
theorem sec_came {W : World} {b0 : Nat} {H : Type} {enc : TypeId × Value → H} {v : Value} {d : DataW H} {ps : List MemPlace} (hval : Value.okWide Tryz.prog W .any b0 24 v) (hd : DataW.Trod enc Tryz.prog W 0 (fun _ => true) true 24 v d ps) :
    ∃ (c sv wd : ByteArray) (ao : Option Addr) (n cap : Nat) (zs : List Int) (dl : DataW H), v = .agg #[.string c, .string sv, .string wd, .slice ao n cap] ∧ Ints W ao n zs ∧ n ≤ cap ∧ cap ≤ maxLen ∧ (ao = Option.none → cap = 0) ∧
      d = .agg [.lit (.string c.data.toList), .lit (.string sv.data.toList), .lit (.string wd.data.toList), dl] ∧ ((dl = .nil ∧ cap = 0) ∨ ∃ ls ss, dl = .slice ls ss ∧ ls.length + ss.length = cap) := by
  have hu : ∃ f0 f1 f2 f3 : Field, Tryz.prog.underlying 24 = some (.struct #[f0, f1, f2, f3]) ∧ (f0.type, f0.offset) = (9, 0) ∧ (f1.type, f1.offset) = (9, 1) ∧ (f2.type, f2.offset) = (9, 2) ∧ (f3.type, f3.offset) = (22, 3) := ⟨_, _, _, _, Tryz.underlying24, rfl, rfl, rfl, rfl⟩
  obtain ⟨f0, f1, f2, f3, hu, g0, g1, g2, g3⟩ := hu
  obtain ⟨cs, rfl, hcs⟩ := okWide_struct hu hval
  obtain ⟨fuel, hf⟩ := hd
  have h9 : Tryz.prog.underlying 9 = some .string := by kernel_rfl
  have h26 : Tryz.prog.underlying 22 = some (.slice 2) := by kernel_rfl
  have h2 : Tryz.prog.underlying 2 = some (.int .i64) := by kernel_rfl
  obtain ⟨c, sv, wd, ao, n, cap, zs, dl, hcl, _, _, _, hi, hx, hdl⟩ := sec_trod hu g0 g1 g2 g3 h9 (by kernel_rfl) h26 (by kernel_rfl) h2 (by kernel_rfl) (by kernel_rfl) hf
  have hcs' : cs = #[.string c, .string sv, .string wd, .slice ao n cap] := by
    rw [← Array.toList_inj]; exact hcl
  subst hcs'
  refine ⟨c, sv, wd, ao, n, cap, zs, dl, rfl, hi.here ?_, hi.fits.1, hi.fits.2, hi.bare, hx, hdl⟩
  intro a ha
  subst ha
  simp only [Value.okWide, hu] at hval
  obtain ⟨cs, e, _, ts, t1, _, t3⟩ := hval
  cases e
  have hts : Tryz.prog.cellTypes Tryz.prog.depth 24 = some [9, 9, 9, 22] := by kernel_rfl
  rw [hts] at t1
  cases t1
  obtain ⟨u, u1, u2⟩ := t3 3 _ rfl
  simp at u1
  subst u1
  simp only [Cell.okWide, h26, Cell.ok, World.has] at u2
  exact u2.2.2.2.1

set_option maxRecDepth 100000 in
theorem secretAddrs_lifted (os : Os) (started : os.Started) (H : Type) (enc : TypeId × Value → H) (F : Stop.Interp) :
    ReturnsInHanded {} Tryz.checked os 3 .any ((Rows.OpenSpec.upto Rows.secretAddrsSpec).preRow enc Tryz.prog Tryz.f3 Rows.secretAddrsUptoRow.domain false Rows.secretAddrsUptoRow.laid) (((Rows.OpenSpec.upto Rows.secretAddrsSpec).at F).post enc Tryz.prog Tryz.f3 false true false false) := by
  refine returnsInHanded_of_row (C := Tryz.checked) (s := Rows.OpenSpec.upto Rows.secretAddrsSpec) own_here started (by kernel_rfl) Tryz.func3 (fits_here os enc) ?_
  intro W base args ds gs before hval0 hW _ hcond _ hL hS _
  have hbulk : Rows.uptoSmall H (ds ++ gs) = true := hcond _ rfl
  have hval : ∀ (j : Nat) t v, Tryz.f3.params[j]? = some t → args[j]? = some v → Value.okWide Tryz.prog W .any base t v := hval0
  have hW' := hW
  obtain ⟨p, q, hA0, hV, rfl, hfz, hnd⟩ := hW
  have hA : DataW.TrodAll enc Tryz.prog W 0 (fun _ => true) true Tryz.f3.params.toList args.toList ds p := hA0
  rw [Tryz.params3] at hA hval
  obtain ⟨v0, v1, v2, d0, d1, d2, p0, p1, p2, rfl, rfl, rfl, h0, h1, h2⟩ := trodAll_three hA
  obtain ⟨rfl, rfl⟩ := trodVars_none hV
  obtain ⟨c, sv, wd, ao, n, cap, zs, dl, rfl, hi, hnc, hcm, hnil, rfl, hdl⟩ := sec_came (hval 0 24 v0 rfl rfl) h0
  obtain ⟨text, rfl, rfl, rfl, hs_t⟩ := Go.ChangeMaps.open_string Tryz.underlying9 (hval 1 9 v1 rfl rfl) h1
  obtain ⟨a, rfl⟩ := okWide_int (k := .i64) (show Tryz.prog.underlying 2 = some (.int .i64) by kernel_rfl) (hval 2 2 v2 rfl rfl)
  have hall : Rows.uptoBulk (DataW.agg [.lit (.string c.data.toList), .lit (.string sv.data.toList), .lit (.string wd.data.toList), dl] : DataW H) + (Rows.uptoBulk (DataW.lit (.string text.data.toList) : DataW H) + (Rows.uptoBulk d2 + 0)) ≤ 1048576 := by
    have : Rows.uptoBulkAll ([.agg [.lit (.string c.data.toList), .lit (.string sv.data.toList), .lit (.string wd.data.toList), dl], .lit (.string text.data.toList), d2] ++ [] : List (DataW H)) ≤ 1048576 := by simpa [Rows.uptoSmall] using hbulk
    simpa [Rows.uptoBulkAll] using this
  have hcapb : cap ≤ 1048576 := by
    rcases hdl with ⟨_, rfl⟩ | ⟨ls, ss, rfl, hlen⟩
    · exact Nat.zero_le _
    · have := bulk_slice ls ss
      simp only [Rows.uptoBulk, Rows.uptoBulkAll] at hall this
      omega
  have htext : text.size < 4294967281 := by
    simp only [Rows.uptoBulk] at hall
    have : text.data.toList.length = text.size := Array.length_toList
    omega
  refine (addrs_law c sv wd ao n cap zs text a W hi (by omega) hnc (by omega) hnil (consts_here hL hS) htext (awake_calls hL hS)).mono ?_
  rintro e W' ⟨rfl, hgr⟩
  exact ⟨_, rfl, post_true laidOut_here (by kernel_rfl) rfl rfl Tryz.underlying4 ⟨rfl, rfl, rfl⟩ hW' hgr⟩

theorem secretAddrsUpto_holds : Rows.SecretAddrsUptoSaid :=
  OpenClaim.holds_of_cond 3 Tryz.f3 rfl rfl rfl rfl rfl rfl rfl ⟨rfl, rfl, rfl, rfl, rfl⟩ rfl rfl rfl rfl rfl (by kernel_rfl) Tryz.func3 (by kernel_rfl)
    (of_decide_eq_true (by kernel_rfl)) (by unfold Func.isWrapper; first | (rw [if_pos (by decide +kernel)]; kernel_rfl) | (rw [if_neg (by decide +kernel)]; exact ⟨rfl, rfl⟩))
    (fun os started H enc _ F => by rw [OpenClaim.pre_eq_preRow]; exact secretAddrs_lifted os started H enc F)

theorem secretAddrsUpto_card : Rows.SecretAddrsUptoCardSaid :=
  Claim7.holds_tied_plain_at .later [] _ _ _ _ secretAddrsUpto_holds (fun _ h => by cases h) (by kernel_rfl) (fun _ h => by cases h) secretAddrsUpto_row_tie rfl ⟨rfl, rfl⟩ (by kernel_rfl) rfl
    (fun f fn hf hfn => by
      obtain rfl : f = 3 := Option.some.inj ((show Tryz.prog.funcNamed "tether/tetherlaw06.SecretAddrs" = some 3 by kernel_rfl).symm.trans hf) |>.symm
      obtain rfl : fn = Tryz.f3 := (Option.some.inj (Tryz.func3.symm.trans hfn)).symm
      exact ⟨by kernel_rfl, fun j t ht => by
        rw [Tryz.params3] at ht
        have hm : t ∈ [24, 9, 2] := by simpa using Array.mem_of_getElem? ht
        have hall : ([24, 9, 2].all fun u => !Tryz.prog.wantsStandIn u) = true := by kernel_rfl
        exact (show Tryz.prog.wantsStandIn t = false by simpa using List.all_eq_true.1 hall t hm)⟩)
    (by kernel_rfl)
#print axioms secretAddrsUpto_card
end Go.Proofs.YtalanklghmcajaaGreatDoor
