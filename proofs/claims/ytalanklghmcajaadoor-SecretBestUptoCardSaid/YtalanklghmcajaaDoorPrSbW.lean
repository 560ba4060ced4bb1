/- secrets: the call awake() over the seat of SecretBest; what the row's list says of the variables. -/
import Derived.Test.YtalanklghmcajaaDoorRows
import Derived.LaidMore
import Derived.LaidHandle
import Derived.LaidLaws
import Derived.WideShapes
import Derived.Test.YtalanklghmcajaaDoorKit6
import Derived.Test.YtalanklghmcajaaDoorKit7
namespace Go.Proofs.Sa
open Go Go.RowKit Go.ChangeShapes Go.WideShapes Go.Ev Go.Proofs.YtalanklghmcajaaDoor

abbrev errV (a : Addr) : Value := .iface 141 (.pointer (some a))
abbrev tyV : Value := .iface 74 (.agg #[.pointer (some ⟨10, 40, none⟩)])
/-- The variables that awake reads: errLine, errorType. -/
def hp0 : AH := { (⟨.nil, 12, 0, 0⟩ : AH) with t := ((T.nil : T AObj).set 24 0 (some (.cells [errV ⟨11, 0, none⟩] 40 1 0 false false))).set 24 1 (some (.cells [tyV] 55 1 0 false false)) }
set_option maxRecDepth 100000 in
theorem awake_evals : evalsFast Tryd.prog 11 hp0 400 6 [] isTrue = true := by kernel_rfl
theorem zerosFlat_here : zerosFlat Tryd.prog = true := by kernel_rfl
theorem mixed_here : Tryd.prog.follows .mixedOrders = true := by kernel_rfl
theorem globs_here : Tryd.prog.globals.size = 10 := by kernel_rfl
theorem begin_here : 10 < (begin Tryd.prog (fun _ _ => 0) default).world.heap.size := by
  have : Nat.blt 10 (begin Tryd.prog (fun _ _ => 0) default).world.heap.size = true := by kernel_rfl
  rwa [Nat.blt_eq] at this
def tyOf : Nat → TypeId
  | 0 => 40
  | 1 => 55
  | _ => 0
theorem star_here : "*" ++ "errors.errorString" = "*errors.errorString" := by decide
set_option maxRecDepth 100000 in
theorem name_out (u : TypeId) (h : Tryd.prog.typeName? 3 u = some "*errors.errorString") : u = 141 :=
  typeName_ptr_named (nm := "errors.errorString") (by rw [star_here]; kernel_rfl) (by kernel_rfl) (by decide) u (by rw [star_here]; exact h)
set_option maxRecDepth 100000 in
theorem ty_one : ((List.range Tryd.prog.types.size).all fun u => !(Tryd.prog.rowNamed u [101, 114, 114, 111, 114]) || Nat.beq u 40) = true := by kernel_rfl
set_option maxRecDepth 100000 in
theorem ty_out (u : TypeId) (h : u < Tryd.prog.types.size) (hr : Tryd.prog.rowNamed u [101, 114, 114, 111, 114] = true) : u = 40 := by
  have := List.all_eq_true.1 ty_one u (by simpa using h)
  rw [hr] at this
  simpa using this

/-! ### the row's list -/

abbrev laidL : List (String × DataW Unit) := Rows.secretBestUptoRow.laid
theorem errLine_mem : ("tether/secret.errLine", Rows.laid_tether_secret_errLine) ∈ laidL := by simp [laidL, Rows.secretBestUptoRow]
theorem errType_mem : ("errors.errorType", Rows.laid_errors_errorType) ∈ laidL := by simp [laidL, Rows.secretBestUptoRow]
theorem plain_mem {n : String} {d : DataW Unit} (h : (n, d) ∈ laidL) (hd : d.handleName?.isNone = true) : (n, d) ∈ laidL.filter fun x => x.2.handleName?.isNone := List.mem_filter.2 ⟨h, hd⟩
section
variable {W : World}
set_option maxRecDepth 100000 in
theorem sent_here (hl : laidMetH Tryd.prog laidL W) {n : String} {s : List UInt8} {g : Nat} (hm : (n, (.iface "*errors.errorString" (.ptr (.agg [.lit (.string s)])) : DataW Unit)) ∈ laidL) (hg : Tryd.prog.globalNamed n = some g) (ht : (Tryd.prog.globals[g]?).map (·.type) = some 40) :
    ∃ a t fz, W.heap[g]? = some (.cells #[.iface 141 (.pointer (some a))] t fz) ∧ a.spot = none ∧ a.block < W.heap.size :=
  sentinel_at (laidMetH_plainPart hl) (T := 40) (U := 141) (E := 143) (plain_mem hm rfl) hg ht Tryd.underlying40 name_out Tryd.underlying141 (by kernel_rfl)
set_option maxRecDepth 100000 in
theorem start_here (hl : laidMetH Tryd.prog laidL W) (hs : W.ShapedOpen Tryd.prog) : ∃ κ, Ev.Start Tryd.prog 11 κ hp0 W := by
  have hsz : Tryd.prog.globals.size < W.heap.size := by
    obtain ⟨o, _, ho, _⟩ := hs.2 10 (by rw [globs_here]; exact Nat.le_refl _) begin_here
    rw [globs_here]
    exact (Array.getElem?_eq_some_iff.1 ho).1
  obtain ⟨a, t, fz, h1, h2, h3⟩ := sent_here hl errLine_mem (g := 0) (by kernel_rfl) (by kernel_rfl)
  obtain ⟨t', fz', g1⟩ := handle_at hl (g := 1) (U := 74) (ty := 40) errType_mem (by kernel_rfl) (by kernel_rfl) ty_out
  obtain ⟨s0, v0⟩ := Ev.Start.globs (P := Tryd.prog) (ty := tyOf) (extra := [a]) hsz (fun x hx => by obtain rfl := List.mem_singleton.1 hx; exact h3)
  obtain ⟨s1, v1⟩ := Ev.Start.glob s0 v0 (g := 0) (Nat.zero_le _) rfl rfl (cs := [errV ⟨11, 0, none⟩]) h1 (.cons (.iface (.ptr ⟨rfl, ⟨a.block, a.off, 0, false, 0⟩, by
    show globK Tryd.prog W tyOf [a] 11 = _
    unfold globK
    rw [globs_here]
    rfl, by
    obtain ⟨x, y, z⟩ := a
    obtain rfl : z = Option.none := h2
    rfl⟩)) .nil)
  have hk : KGs 10 (globK Tryd.prog W tyOf [a]) := ⟨_, globK_low (by rw [globs_here]; exact Nat.le_refl _), rfl, rfl⟩
  have g1' : W.heap[1]? = some (.cells #[tyV] t' fz') := by
    rw [g1]
    unfold typeHandle
    rw [globs_here]
  obtain ⟨s2, _⟩ := Ev.Start.glob s1 v1 (g := 1) (by rw [globs_here]; omega) rfl rfl (cs := [tyV]) g1' (fixL_self hk [tyV] rfl)
  rw [globs_here] at s2
  exact ⟨_, s2⟩
theorem awake_calls (hl : laidMetH Tryd.prog laidL W) (hs : W.ShapedOpen Tryd.prog) : ∀ w', Below W.heap.size W w' → Calls Tryd.prog 6 #[] w' fun e w2 => e = .returned (.bool true) ∧ Below w'.heap.size w' w2 := by
  intro w' hb
  obtain ⟨κ, h⟩ := start_here hl hs
  refine (evalsFast_calls zerosFlat_here mixed_here awake_evals (h.below hb) (args' := #[]) .nil).mono ?_
  rintro e w2 ⟨v, rfl, hv, hgr⟩
  exact ⟨by rw [isTrue_eq hv], hgr⟩
end
end Go.Proofs.Sa
