/- options: Repeat of "0", at most three times, in whatever world. -/
import Derived.Test.YtbegpgheikibjaaGreatDoorProg
import Derived.Test.YtbegpgheikibjaaGreatDoorKit4
namespace Go.Proofs.Cn
open Go Go.RowKit Go.Ev
theorem zerosFlat_prog : zerosFlat Tryz.prog = true := by kernel_rfl
theorem mixed_prog : Tryz.prog.follows .mixedOrders = true := by kernel_rfl
theorem fast_flat {n : Nat} {g : FuncId} {args : List Value} {v : Value} (e : evalsFast Tryz.prog 0 ⟨.nil, 0, 0, 0⟩ n g args (eqV v) = true) (hf : flatL args = true) (w : World) :
    Calls Tryz.prog g ⟨args⟩ w fun e w' => e = .returned v ∧ Below w.heap.size w w' := by
  refine (evalsFast_calls zerosFlat_prog mixed_prog e (start_bare w) (args' := ⟨args⟩) (VL.flat _ hf)).mono ?_
  rintro e w' ⟨v', rfl, hv, hb⟩
  rw [eqV_eq _ _ hv]
  exact ⟨rfl, hb⟩
set_option maxRecDepth 100000 in
theorem rep0 (w : World) : Calls Tryz.prog 99 #[.string ⟨#[48]⟩, .int .i64 0] w fun e w' => e = .returned (.string ⟨#[]⟩) ∧ Below w.heap.size w w' := fast_flat (n := 200) (args := [.string ⟨#[48]⟩, .int .i64 0]) (by kernel_rfl) (by kernel_rfl) w
set_option maxRecDepth 100000 in
theorem rep1 (w : World) : Calls Tryz.prog 99 #[.string ⟨#[48]⟩, .int .i64 1] w fun e w' => e = .returned (.string ⟨#[48]⟩) ∧ Below w.heap.size w w' := fast_flat (n := 200) (args := [.string ⟨#[48]⟩, .int .i64 1]) (by kernel_rfl) (by kernel_rfl) w
set_option maxRecDepth 100000 in
theorem rep2 (w : World) : Calls Tryz.prog 99 #[.string ⟨#[48]⟩, .int .i64 2] w fun e w' => e = .returned (.string ⟨#[48, 48]⟩) ∧ Below w.heap.size w w' := fast_flat (n := 200) (args := [.string ⟨#[48]⟩, .int .i64 2]) (by kernel_rfl) (by kernel_rfl) w
set_option maxRecDepth 100000 in
theorem rep3 (w : World) : Calls Tryz.prog 99 #[.string ⟨#[48]⟩, .int .i64 3] w fun e w' => e = .returned (.string ⟨#[48, 48, 48]⟩) ∧ Below w.heap.size w w' := fast_flat (n := 200) (args := [.string ⟨#[48]⟩, .int .i64 3]) (by kernel_rfl) (by kernel_rfl) w
end Go.Proofs.Cn
