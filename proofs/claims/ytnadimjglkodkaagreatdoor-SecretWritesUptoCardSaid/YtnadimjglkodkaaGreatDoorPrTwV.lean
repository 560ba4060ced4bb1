/- secrets: the call awake(); what the row's list says of the variables; the argument. -/
import Derived.Test.YtnadimjglkodkaaGreatDoorRows
import Derived.Lib.LaidTab
import Derived.LaidMore
import Derived.LaidHandle
import Derived.LaidLaws
import Derived.WideShapes
import Derived.Test.YtnadimjglkodkaaGreatDoorKit6
import Derived.Test.YtnadimjglkodkaaGreatDoorKit7
import Derived.Test.YtnadimjglkodkaaGreatDoorPrTzC
import Derived.Test.YtnadimjglkodkaaGreatDoorPrOpen
namespace Go.Proofs.Sa
open Go Go.RowKit Go.Pl Go.ChangeShapes Go.WideShapes Go.Ev Go.Proofs.YtnadimjglkodkaaGreatDoor

abbrev errV (a : Addr) : Value := .iface 226 (.pointer (some a))
abbrev tyV : Value := .iface 153 (.agg #[.pointer (some ⟨10, 83, none⟩)])
/-- The variables that awake reads: errLine, errorType. -/
def hp0 : AH := { (⟨.nil, 12, 0, 0⟩ : AH) with t := ((T.nil : T AObj).set 24 0 (some (.cells [errV ⟨11, 0, none⟩] 83 1 0 false false))).set 24 1 (some (.cells [tyV] 123 1 0 false false)) }
set_option maxRecDepth 100000 in
theorem awake_evals : evalsFast Tryz.prog 11 hp0 400 26 [] isTrue = true := by kernel_rfl
theorem zerosFlat_here : zerosFlat Tryz.prog = true := by kernel_rfl
theorem mixed_here : Tryz.prog.follows .mixedOrders = true := by kernel_rfl
theorem globs_here : Tryz.prog.globals.size = 10 := by kernel_rfl
theorem begin_here : 10 < (begin Tryz.prog (fun _ _ => 0) default).world.heap.size := by
  have : Nat.blt 10 (begin Tryz.prog (fun _ _ => 0) default).world.heap.size = true := by kernel_rfl
  rwa [Nat.blt_eq] at this
def tyOf : Nat → TypeId
  | 0 => 83
  | 1 => 123
  | _ => 0
theorem star_here : "*" ++ "errors.errorString" = "*errors.errorString" := by decide
set_option maxRecDepth 100000 in
theorem name_out (u : TypeId) (h : Tryz.prog.typeName? 3 u = some "*errors.errorString") : u = 226 :=
  typeName_ptr_named (nm := "errors.errorString") (by rw [star_here]; kernel_rfl) (by kernel_rfl) (by decide) u (by rw [star_here]; exact h)
set_option maxRecDepth 100000 in
theorem ty_one : ((List.range Tryz.prog.types.size).all fun u => !(Tryz.prog.rowNamed u [101, 114, 114, 111, 114]) || Nat.beq u 83) = true := by kernel_rfl
set_option maxRecDepth 100000 in
theorem ty_out (u : TypeId) (h : u < Tryz.prog.types.size) (hr : Tryz.prog.rowNamed u [101, 114, 114, 111, 114] = true) : u = 83 := by
  have := List.all_eq_true.1 ty_one u (by simpa using h)
  rw [hr] at this
  simpa using this

/-! ### the row's list -/

abbrev laidL : List (String × DataW Unit) := Rows.secretReadsRow.laid
theorem errLine_mem : ("tether/secret.errLine", Rows.laid_tether_secret_errLine) ∈ laidL := by simp [laidL, Rows.secretReadsRow]
theorem errSyntax_mem : ("strconv.ErrSyntax", Rows.laid_strconv_ErrSyntax) ∈ laidL := by simp [laidL, Rows.secretReadsRow]
theorem errRange_mem : ("strconv.ErrRange", Rows.laid_strconv_ErrRange) ∈ laidL := by simp [laidL, Rows.secretReadsRow]
theorem pow_mem : ("internal/strconv.uint64pow10", Rows.laid_internal_strconv_uint64pow10) ∈ laidL := by simp [laidL, Rows.secretReadsRow]
theorem errType_mem : ("errors.errorType", Rows.laid_errors_errorType) ∈ laidL := by simp [laidL, Rows.secretReadsRow]
theorem plain_mem {n : String} {d : DataW Unit} (h : (n, d) ∈ laidL) (hd : d.handleName?.isNone = true) : (n, d) ∈ laidL.filter fun x => x.2.handleName?.isNone := List.mem_filter.2 ⟨h, hd⟩
section
variable {W : World}
set_option maxRecDepth 100000 in
theorem sent_here (hl : laidMetH Tryz.prog laidL W) {n : String} {s : List UInt8} {g : Nat} (hm : (n, (.iface "*errors.errorString" (.ptr (.agg [.lit (.string s)])) : DataW Unit)) ∈ laidL) (hg : Tryz.prog.globalNamed n = some g) (ht : (Tryz.prog.globals[g]?).map (·.type) = some 83) :
    ∃ a t fz, W.heap[g]? = some (.cells #[.iface 226 (.pointer (some a))] t fz) ∧ a.spot = none ∧ a.block < W.heap.size :=
  sentinel_at (laidMetH_plainPart hl) (T := 83) (U := 226) (E := 228) (plain_mem hm rfl) hg ht Tryz.underlying83 name_out Tryz.underlying226 (by kernel_rfl)
set_option maxRecDepth 100000 in
theorem start_here (hl : laidMetH Tryz.prog laidL W) (hs : W.ShapedOpen Tryz.prog) : ∃ κ, Ev.Start Tryz.prog 11 κ hp0 W := by
  have hsz : Tryz.prog.globals.size < W.heap.size := by
    obtain ⟨o, _, ho, _⟩ := hs.2 10 (by rw [globs_here]; exact Nat.le_refl _) begin_here
    rw [globs_here]
    exact (Array.getElem?_eq_some_iff.1 ho).1
  obtain ⟨a, t, fz, h1, h2, h3⟩ := sent_here hl errLine_mem (g := 0) (by kernel_rfl) (by kernel_rfl)
  obtain ⟨t', fz', g1⟩ := handle_at hl (g := 1) (U := 153) (ty := 83) errType_mem (by kernel_rfl) (by kernel_rfl) ty_out
  obtain ⟨s0, v0⟩ := Ev.Start.globs (P := Tryz.prog) (ty := tyOf) (extra := [a]) hsz (fun x hx => by obtain rfl := List.mem_singleton.1 hx; exact h3)
  obtain ⟨s1, v1⟩ := Ev.Start.glob s0 v0 (g := 0) (Nat.zero_le _) rfl rfl (cs := [errV ⟨11, 0, none⟩]) h1 (.cons (.iface (.ptr ⟨rfl, ⟨a.block, a.off, 0, false, 0⟩, by
    show globK Tryz.prog W tyOf [a] 11 = _
    unfold globK
    rw [globs_here]
    rfl, by
    obtain ⟨x, y, z⟩ := a
    obtain rfl : z = Option.none := h2
    rfl⟩)) .nil)
  have hk : KGs 10 (globK Tryz.prog W tyOf [a]) := ⟨_, globK_low (by rw [globs_here]; exact Nat.le_refl _), rfl, rfl⟩
  have g1' : W.heap[1]? = some (.cells #[tyV] t' fz') := by
    rw [g1]
    unfold typeHandle
    rw [globs_here]
  obtain ⟨s2, _⟩ := Ev.Start.glob s1 v1 (g := 1) (by rw [globs_here]; omega) rfl rfl (cs := [tyV]) g1' (fixL_self hk [tyV] rfl)
  rw [globs_here] at s2
  exact ⟨_, s2⟩
theorem awake_calls (hl : laidMetH Tryz.prog laidL W) (hs : W.ShapedOpen Tryz.prog) : ∀ w', Below W.heap.size W w' → Calls Tryz.prog 26 #[] w' fun e w2 => e = .returned (.bool true) ∧ Below w'.heap.size w' w2 := by
  intro w' hb
  obtain ⟨κ, h⟩ := start_here hl hs
  refine (evalsFast_calls zerosFlat_here mixed_here awake_evals (h.below hb) (args' := #[]) .nil).mono ?_
  rintro e w2 ⟨v, rfl, hv, hgr⟩
  exact ⟨by rw [isTrue_eq hv], hgr⟩
set_option maxRecDepth 100000 in
theorem tab_mem (hl : laidMetH Tryz.prog laidL W) : Lib.TabIs Tryz.prog W "internal/strconv.uint64pow10" .u64 Lib.pow10Tab := by
  obtain ⟨ps, h1, _, _⟩ := laidMetH_plainPart hl
  obtain ⟨g, t, cs, fuel, p, a1, a2, a3, a4, _⟩ := laidVars_mem h1 (plain_mem pow_mem (by kernel_rfl))
  have hg : Tryz.prog.globalNamed "internal/strconv.uint64pow10" = some 2 := by kernel_rfl
  rw [hg] at a1
  cases a1
  have ht : (Tryz.prog.globals[2]?).map (·.type) = some 203 := by kernel_rfl
  rw [ht] at a2
  cases a2
  have := Lib.cells_of_tab (zs := Lib.pow10Tab) (k := .u64) Tryz.underlying203 (by kernel_rfl) (by kernel_rfl) (by kernel_rfl) a4
  unfold Lib.TabIs
  rw [a3]
  congr 1
  rw [← Array.toList_inj, this]
set_option maxRecDepth 100000 in
theorem most_here (hs : W.ShapedOpen Tryz.prog) : ∃ m, W.cell? ⟨3, 0, none⟩ = some (.int .i64 m) := by
  have hz : (((begin Tryz.prog (fun _ _ => 0) default).world.heap[3]?).bind Obj.row?) = some (#[.int .i64 0], 3) := by kernel_rfl
  obtain ⟨cs, h1, h2, h3⟩ := hs.1 3 _ _ (by rw [globs_here]; omega) hz
  obtain ⟨ts, c1, _, c3⟩ := h3 (by kernel_rfl)
  have : Tryz.prog.cellTypes Tryz.prog.depth 3 = some [3] := by kernel_rfl
  rw [this] at c1
  cases c1
  simp only [List.size_toArray, List.length_cons, List.length_nil] at h2
  obtain ⟨v, hv⟩ : ∃ v, cs[0]? = some v := ⟨_, Array.getElem?_eq_getElem (by omega)⟩
  obtain ⟨u, hu, hk⟩ := c3 0 v hv
  simp at hu
  subst hu
  obtain ⟨m, rfl⟩ := okWide_int (P := Tryz.prog) (w := W) (r := .any) (base := 0) (t := 3) (v := v) (k := .i64) (by kernel_rfl) (by
    have ht : Tryz.prog.underlying 3 = some (.int .i64) := by kernel_rfl
    simp only [Value.okWide, ht, Cell.okWide]
    exact hk)
  exact ⟨m, by simp only [World.cell?, h1]; exact hv⟩
theorem consts_here (hl : laidMetH Tryz.prog laidL W) (hs : W.ShapedOpen Tryz.prog) : Consts W := by
  obtain ⟨a, t, fz, h1, _⟩ := sent_here hl errSyntax_mem (g := 6) (by kernel_rfl) (by kernel_rfl)
  obtain ⟨a', t', fz', h1', _⟩ := sent_here hl errRange_mem (g := 7) (by kernel_rfl) (by kernel_rfl)
  exact ⟨tab_mem hl, most_here hs, ⟨_, by simp only [World.cell?, h1]; rfl, .inr ⟨_, _, rfl⟩⟩, _, by simp only [World.cell?, h1']; rfl, .inr ⟨_, _, rfl⟩⟩
end
end Go.Proofs.Sa
