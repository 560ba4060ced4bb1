/- SecretNil: for every input the law returns true, and each argument reads behind the call as it read before; condition: the listed package variables are laid as the row says. -/
import Derived.Test.YtpfndgfhfkkenaaGreatDoorRows
import Derived.Test.YtpfndgfhfkkenaaGreatDoorTie
import Derived.Test.YtpfndgfhfkkenaaGreatDoorCards
import Derived.Deep.DeepHandedRow
import Derived.LaidMore
import Derived.LaidHandle
import Derived.OpenShut
import Derived.Lay
import Derived.LaidLaws
import Derived.Stop.Joined
import Derived.SevenTiedAt
import Derived.Test.YtpfndgfhfkkenaaGreatDoorKit6
import Derived.Test.YtpfndgfhfkkenaaGreatDoorKit7
namespace Go.Proofs.YtpfndgfhfkkenaaGreatDoor
open Go Go.ChangeShapes Go.WideShapes Go.ChangeAt Go.WideMaps Go.WideElems Go.RowKit Go.Ev

abbrev errV (a : Addr) : Value := .iface 150 (.pointer (some a))
abbrev tyV : Value := .iface 112 (.agg #[.pointer (some ⟨10, 50, none⟩)])
/-- The variables that are read: errLine, errorType. -/
def hp0 : AH := { (⟨.nil, 12, 0, 0⟩ : AH) with t := ((T.nil : T AObj).set 24 0 (some (.cells [errV ⟨11, 0, none⟩] 50 1 0 false false))).set 24 1 (some (.cells [tyV] 81 1 0 false false)) }
set_option maxRecDepth 100000 in
theorem secretNil_evals (a b c : ByteArray) : evalsFast Tryz.prog 11 hp0 400 3 [.string a, .string b, .string c] isTrue = true := by
  kernel_rfl
theorem zerosFlat_here : zerosFlat Tryz.prog = true := by kernel_rfl
theorem mixed_here : Tryz.prog.follows .mixedOrders = true := by kernel_rfl
theorem laidOut_here : laidOutB Tryz.prog = true := by kernel_rfl
theorem own_here : ownKnob Tryz.prog.godebug = Option.none := by kernel_rfl
theorem globs_here : Tryz.prog.globals.size = 10 := by kernel_rfl
theorem begin_here : 10 < (begin Tryz.prog (fun _ _ => 0) default).world.heap.size := by
  have : Nat.blt 10 (begin Tryz.prog (fun _ _ => 0) default).world.heap.size = true := by kernel_rfl
  rwa [Nat.blt_eq] at this
def tyOf : Nat → TypeId
  | 0 => 50
  | 1 => 81
  | _ => 0
theorem star_here : "*" ++ "errors.errorString" = "*errors.errorString" := by decide
set_option maxRecDepth 100000 in
theorem name_out (u : TypeId) (h : Tryz.prog.typeName? 3 u = some "*errors.errorString") : u = 150 :=
  typeName_ptr_named (nm := "errors.errorString") (by rw [star_here]; kernel_rfl) (by kernel_rfl) (by decide) u (by rw [star_here]; exact h)
set_option maxRecDepth 100000 in
theorem ty_one : ((List.range Tryz.prog.types.size).all fun u => !(Tryz.prog.rowNamed u [101, 114, 114, 111, 114]) || Nat.beq u 50) = true := by kernel_rfl
set_option maxRecDepth 100000 in
theorem ty_out (u : TypeId) (h : u < Tryz.prog.types.size) (hr : Tryz.prog.rowNamed u [101, 114, 114, 111, 114] = true) : u = 50 := by
  have := List.all_eq_true.1 ty_one u (by simpa using h)
  rw [hr] at this
  simpa using this
set_option maxRecDepth 100000 in
theorem start_here {W : World} (hl : laidMetH Tryz.prog Rows.secretNilRow.laid W) (hs : W.ShapedOpen Tryz.prog) : ∃ κ, Ev.Start Tryz.prog 11 κ hp0 W := by
  have hsz : Tryz.prog.globals.size < W.heap.size := by
    obtain ⟨o, _, ho, _⟩ := hs.2 10 (by rw [globs_here]; exact Nat.le_refl _) begin_here
    rw [globs_here]
    exact (Array.getElem?_eq_some_iff.1 ho).1
  obtain ⟨a, t, fz, h1, h2, h3⟩ := sentinel_at (laidMetH_plainPart hl) (n := "tether/secret.errLine") (nm := "*errors.errorString") (d := .agg [.lit (.string [110, 111, 32, 108, 105, 110, 101, 32, 111, 102, 32, 115, 101, 99, 114, 101, 116, 115])]) (T := 50) (U := 150) (E := 152) (g := 0)
    (List.mem_filter.2 ⟨show _ ∈ Rows.secretNilRow.laid by simp [Rows.secretNilRow, Rows.laid_tether_secret_errLine], rfl⟩) (by kernel_rfl) (by kernel_rfl) Tryz.underlying50 name_out Tryz.underlying150 (by kernel_rfl)
  obtain ⟨t', fz', g1⟩ := handle_at hl (n := "errors.errorType") (g := 1) (U := 112) (ty := 50) (by simp [Rows.secretNilRow, Rows.laid_errors_errorType]) (by kernel_rfl) (by kernel_rfl) ty_out
  obtain ⟨s0, v0⟩ := Ev.Start.globs (P := Tryz.prog) (ty := tyOf) (extra := [a]) hsz (fun x hx => by obtain rfl := List.mem_singleton.1 hx; exact h3)
  obtain ⟨s1, v1⟩ := Ev.Start.glob s0 v0 (g := 0) (Nat.zero_le _) rfl rfl (cs := [errV ⟨11, 0, none⟩]) h1 (.cons (.iface (.ptr ⟨rfl, ⟨a.block, a.off, 0, false, 0⟩, by
    show globK Tryz.prog W tyOf [a] 11 = _
    unfold globK
    rw [globs_here]
    rfl, by
    obtain ⟨x, y, z⟩ := a
    obtain rfl : z = Option.none := h2
    rfl⟩)) .nil)
  have hk : KGs 10 (globK Tryz.prog W tyOf [a]) := ⟨_, globK_low (by rw [globs_here]; exact Nat.le_refl _), rfl, rfl⟩
  have g1' : W.heap[1]? = some (.cells #[tyV] t' fz') := by
    rw [g1]
    unfold typeHandle
    rw [globs_here]
  obtain ⟨s2, _⟩ := Ev.Start.glob s1 v1 (g := 1) (by rw [globs_here]; omega) rfl rfl (cs := [tyV]) g1' (fixL_self hk [tyV] rfl)
  rw [globs_here] at s2
  exact ⟨_, s2⟩

/-- A world that meets the condition: the plain data laid, the handle's cell put in. -/
noncomputable def laidWorld (os : Os) : World :=
  let w0 := World.laidAll Tryz.prog os (Rows.secretNilRow.laid.filter fun x => x.2.handleName?.isNone)
  { w0 with heap := w0.heap.modify 1 fun
      | .cells _ t fz => .cells #[tyV] t fz
      | o => o }
set_option maxRecDepth 100000 in
theorem laid_met (os : Os) (args : Array Value) : laidMetH Tryz.prog Rows.secretNilRow.laid ((laidWorld os).forCall (fun _ _ => 0) ⟨#[], args, []⟩).memory :=
  laidMetH_of_parts (laidMet_of_run' 8 (by kernel_rfl) (by kernel_rfl)) (by kernel_rfl)
set_option maxRecDepth 100000 in
theorem laid_shaped (os : Os) : ((laidWorld os).forCall (fun _ _ => 0) ⟨#[], #[.string ⟨#[]⟩, .string ⟨#[]⟩, .string ⟨#[]⟩], []⟩).Shaped Tryz.prog := World.shaped_of_ZipB (by kernel_rfl) (by kernel_rfl)

set_option maxRecDepth 100000 in
theorem secretNil_lifted (os : Os) (started : os.Started) (H : Type) (enc : TypeId × Value → H) :
    ReturnsInHanded {} Tryz.checked os 3 .any (fun w args => (Rows.secretNilSpec.pre enc Tryz.prog Tryz.f3 [] false w args ∧ laidMetH Tryz.prog Rows.secretNilRow.laid w) ∧ sizedMet enc Tryz.prog Tryz.f3 (OpenSpec.ofChange Rows.secretNilSpec) false w args)
      (Rows.secretNilSpec.post enc Tryz.prog Tryz.f3 false true false false) := by
  refine returnsInHanded_of_row (C := Tryz.checked) (s := OpenSpec.ofChange Rows.secretNilSpec) (F := fun _ _ _ => 0) (conds := []) (apart := false) (laid := Rows.secretNilRow.laid) own_here started (by kernel_rfl) Tryz.func3
    (ChangeSpec.witness_shaped (enc := enc) (C := Tryz.checked) (os := os) (X := fun w _ => laidMetH Tryz.prog Rows.secretNilRow.laid w) false (laidWorld os) #[.string ⟨#[]⟩, .string ⟨#[]⟩, .string ⟨#[]⟩] 8 (World.laidAll_os _ _ _) (laid_shaped os) (by kernel_rfl) (by kernel_rfl) (by kernel_rfl) (laid_met os _)) ?_
  intro W base args ds gs before hval0 hW _ _ _ hL hS _
  have hval : ∀ (j : Nat) t v, Tryz.f3.params[j]? = some t → args[j]? = some v → Value.okWide Tryz.prog W .any base t v := hval0
  have hW' := hW
  obtain ⟨p, q, hA0, hV, rfl, hfz, hnd⟩ := hW
  have hA : DataW.TrodAll enc Tryz.prog W 0 (fun _ => true) true Tryz.f3.params.toList args.toList ds p := hA0
  rw [Tryz.params3] at hA hval
  obtain ⟨v0, v1, v2, d0, d1, d2, p0, p1, p2, rfl, rfl, rfl, h0, h1, h2⟩ := trodAll_three hA
  obtain ⟨rfl, rfl⟩ := trodVars_none hV
  obtain ⟨a, rfl, rfl, rfl, hs_a⟩ := Go.ChangeMaps.open_string Tryz.underlying9 (hval 0 9 v0 rfl rfl) h0
  obtain ⟨b, rfl, rfl, rfl, hs_b⟩ := Go.ChangeMaps.open_string Tryz.underlying9 (hval 1 9 v1 rfl rfl) h1
  obtain ⟨c, rfl, rfl, rfl, hs_c⟩ := Go.ChangeMaps.open_string Tryz.underlying9 (hval 2 9 v2 rfl rfl) h2
  have fin : ∀ e W', (∃ v, e = Ending.returned v ∧ isTrue v = true ∧ Below W.heap.size W W') → ∃ v, e = Ending.returned v ∧ Rows.secretNilSpec.post enc Tryz.prog Tryz.f3 false true false false W #[.string a, .string b, .string c] v W' := by
    intro e W' hen
    obtain ⟨v, rfl, hv, hgr⟩ := hen
    obtain rfl := isTrue_eq hv
    exact ⟨_, rfl, post_true laidOut_here (by kernel_rfl) rfl rfl Tryz.underlying4 ⟨rfl, rfl, rfl⟩ hW' hgr⟩
  obtain ⟨κ, hs⟩ := start_here hL hS
  exact (evalsFast_calls zerosFlat_here mixed_here (secretNil_evals a b c) hs (args' := #[.string a, .string b, .string c]) (.cons (.string _) (.cons (.string _) (.cons (.string _) .nil)))).mono fin

theorem secretNil_holds : Rows.SecretNilSaid :=
  OpenClaim.holds_of_wide 3 Tryz.f3 rfl rfl rfl rfl rfl rfl rfl ⟨rfl, rfl, rfl, rfl, rfl⟩ rfl rfl rfl rfl rfl (by kernel_rfl) Tryz.func3 (by kernel_rfl)
    (of_decide_eq_true (by kernel_rfl)) (by unfold Func.isWrapper; first | (rw [if_pos (by decide +kernel)]; kernel_rfl) | (rw [if_neg (by decide +kernel)]; exact ⟨rfl, rfl⟩))
    (fun os started H enc _ => secretNil_lifted os started H enc)

theorem secretNil_card : Rows.SecretNilCardSaid :=
  Claim7.holds_tied_plain_at .later [] [.data, .data, .data, .data, .handle, .sentinel, .sentinel, .sentinel, .pinned] true (true, "b230ba95f039487cd26495417b2566b204e5c885b44026717d339544a7b2a1a6") true
    secretNil_holds (fun _ h => by cases h) (by kernel_rfl) (fun _ h => by cases h) secretNil_row_tie rfl ⟨rfl, rfl⟩ (by kernel_rfl) rfl
    (fun f fn hf hfn => by
      obtain rfl : f = 3 := Option.some.inj ((show Tryz.prog.funcNamed "tether/tetherlaw06.SecretNil" = some 3 by kernel_rfl).symm.trans hf) |>.symm
      obtain rfl : fn = Tryz.f3 := (Option.some.inj (Tryz.func3.symm.trans hfn)).symm
      exact ⟨by kernel_rfl, fun j t ht => by
        rw [Tryz.params3] at ht
        have hm : t ∈ [9, 9, 9] := by simpa using Array.mem_of_getElem? ht
        have hall : ([9, 9, 9].all fun u => !Tryz.prog.wantsStandIn u) = true := by kernel_rfl
        exact (show Tryz.prog.wantsStandIn t = false by simpa using List.all_eq_true.1 hall t hm)⟩)
    (by kernel_rfl)
#print axioms secretNil_card
end Go.Proofs.YtpfndgfhfkkenaaGreatDoor
