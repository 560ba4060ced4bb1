/- A certified evaluator of calls, run by the kernel, with its rules for what is not known: what it tells holds of every program. -/
import Derived.Laws.FloatArith
import Derived.Test.YtdnfnnbkbcfnkaaGreatKit8
import Derived.Test.YtdnfnnbkbcfnkaaGreatKit4
namespace Go.Ev
open Ieee Go

def FloatR (op : BinOp) (a b r : Nat) : Prop := match floatBits op .f64 a b with
  | some x => r = x
  | none => nanB r = true
theorem nan_cut (a b t : Nat) : nanB (Question.cut (.nanBits .f64 a b) t) = true := by
  have e : Question.cut (.nanBits .f64 a b) t = (t % 2) * 2 ^ 63 + 0x7ff0000000000000 + 1 + (t / 2) % (2 ^ 52 - 1) := rfl
  rw [e, nanB_eq]
  unfold nanW
  rw [rd64_eq]
  have hu : (t / 2) % (2 ^ 52 - 1) < 2 ^ 52 - 1 := Nat.mod_lt _ (by decide)
  generalize (t / 2) % (2 ^ 52 - 1) = u at hu
  have hs : t % 2 < 2 := Nat.mod_lt _ (by decide)
  generalize t % 2 = s at hs
  have hm : (s * 2 ^ 63 + 0x7ff0000000000000 + 1 + u) % 2 ^ 63 = 0x7ff0000000000000 + 1 + u := by omega
  rw [hm, if_neg (by omega), if_neg (by omega), if_neg (by omega)]
  rfl
theorem run_float_any {P : Program} (op : BinOp) (hop : op = .add ∨ op = .sub ∨ op = .mul ∨ op = .quo) (t : TypeId) (a b : Nat) (w : World) :
    ∃ r w', (binOp op t (.float .f64 a) (.float .f64 b)).run P w = .ok (.float .f64 r) w' ∧ (w' = w ∨ w' = w.drew) ∧ FloatR op a b r := by
  cases h : floatBits op .f64 a b with
  | some x => exact ⟨x, w, run_float_arith w op t .f64 a b x h, .inl rfl, by unfold FloatR; rw [h]⟩
  | none =>
    refine ⟨Question.cut (.nanBits .f64 a b) (w.tape w.drawn (.nanBits .f64 a b)), w.drew, ?_, .inr rfl, by unfold FloatR; rw [h]; exact nan_cut _ _ _⟩
    unfold floatBits at h
    rcases hop with rfl | rfl | rfl | rfl <;> simp only at h <;> (simp only [binOp, Op.floatArith, h]; rfl)
/-- Nothing that was there is turned. -/
structure Quiet (w w' : World) : Prop where
  os : w'.os = w.os
  tape : w'.tape = w.tape
  output : w'.output = w.output
  size : w.heap.size ≤ w'.heap.size
  keep : ∀ k, k < w.heap.size → w'.heap[k]? = w.heap[k]?
theorem Quiet.refl (w : World) : Quiet w w := ⟨rfl, rfl, rfl, Nat.le_refl _, fun _ _ => rfl⟩
theorem Quiet.trans {a b c : World} (h : Quiet a b) (h' : Quiet b c) : Quiet a c := ⟨h'.os.trans h.os, h'.tape.trans h.tape, h'.output.trans h.output, Nat.le_trans h.size h'.size, fun k hk => (h'.keep k (Nat.lt_of_lt_of_le hk h.size)).trans (h.keep k hk)⟩
theorem Quiet.of {w w' : World} (h : w' = w ∨ w' = w.drew) : Quiet w w' := by
  rcases h with rfl | rfl
  · exact Quiet.refl _
  · exact ⟨rfl, rfl, rfl, Nat.le_refl _, fun _ _ => rfl⟩
section
variable {P : Program} {gl : Nat}
/-- A contract of plain values, as the evaluator takes it. -/
theorem ctup_of_calls {g : FuncId} {args : List Value} {v : Value} (hf : flatL args = true) (hv : flatV v = true) (c : ∀ w, Calls P g ⟨args⟩ w fun e w' => e = .returned v ∧ Quiet w w') (h : AH) : CTup P gl g args h (.ret v) h := by
  intro wf
  refine ⟨⟨Ext.refl _, wf⟩, fun κ G args' w hg hrel hvl hag hfs => ?_⟩
  have e : args' = ⟨args⟩ := by
    have := VL.eq_of_flat hvl hf
    cases args'; simp_all
  subst e
  refine (c w).mono fun en w' hen => ?_
  obtain ⟨rfl, q⟩ := hen
  refine ⟨κ, .ret (VR.flat v hv), ?_, K.le_refl _, fun _ _ => rfl, fun _ _ e => .inl e, fun k hk _ => q.keep k hk, q.os, q.tape, q.output, q.size⟩
  rw [merge_self wf hag]
  exact ⟨fun i o hi => let ⟨b, hb, hin⟩ := hrel.at_ i o hi; ⟨b, hb, hin.heap (q.keep _ (hrel.old i b hb))⟩, hrel.one, fun i b hb => Nat.lt_of_lt_of_le (hrel.old i b hb) q.size⟩
/-- And back. -/
theorem calls_of_ctup {g : FuncId} {args : List Value} {v : Value} (t : ∀ h, CTup P 0 g args h (.ret v) h) (hf : flatL args = true) (hv : flatV v = true) (w : World) : Calls P g ⟨args⟩ w fun e w' => e = .returned v ∧ Quiet w w' :=
  (plain_law t hf hv (Nat.zero_le _)).mono fun _ _ h => ⟨h.1, h.2.os, h.2.tape, h.2.output, h.2.size, h.2.block⟩
end
/-! ### values, but for the bits of no number -/

def qnan : Nat := 9221120237041090561
def toldF (a : Nat) : Nat := bif nanB a then qnan else a
def valF (op : BinOp) (a b : Nat) : Nat := (floatBits op .f64 a b).getD qnan
def eqN (x y : Nat) : Prop := x = y ∨ (nanB x = true ∧ nanB y = true)
theorem nan_qnan : nanB qnan = true := by decide +kernel
theorem toldF_eq {x y : Nat} (h : eqN x y) : toldF x = toldF y := by
  rcases h with rfl | ⟨h1, h2⟩
  · rfl
  · unfold toldF; rw [h1, h2]; rfl
theorem nan_read {a : Nat} (h : nanB a = true) : ∃ s t, FloatKind.f64.format.read a = .nan s t := by
  rw [nanB_eq] at h
  unfold nanW rd64 at h
  have e : FloatKind.f64.format.read a = Ieee.double.read a := rfl
  rw [e]
  cases hd : Ieee.double.read a with
  | nan s t => exact ⟨s, t, rfl⟩
  | number s m i => rw [hd] at h; simp [Datum.isNaN] at h
  | infinity s => rw [hd] at h; simp [Datum.isNaN] at h
theorem floatBits_nan {op : BinOp} {a b : Nat} (h : nanB a = true ∨ nanB b = true) : floatBits op .f64 a b = none := by
  unfold floatBits
  rcases h with h | h
  · obtain ⟨s, t, e⟩ := nan_read h
    cases op <;> first | rfl | (simp only [Format.add, Format.sub, Format.mul, Format.div, e]; rfl)
  · obtain ⟨s, t, e⟩ := nan_read h
    cases op <;> first | rfl | (simp only [Format.add, Format.sub, Format.mul, Format.div, e]; cases FloatKind.f64.format.read a <;> rfl)
theorem FloatR.val {op : BinOp} {a b a' b' r : Nat} (h : FloatR op a b r) (ha : eqN a a') (hb : eqN b b') : eqN r (valF op a' b') := by
  unfold FloatR at h
  have key : floatBits op .f64 a b = floatBits op .f64 a' b' := by
    rcases ha with rfl | ⟨h1, h2⟩
    · rcases hb with rfl | ⟨h3, h4⟩
      · rfl
      · rw [floatBits_nan (.inr h3), floatBits_nan (.inr h4)]
    · rw [floatBits_nan (.inl h1), floatBits_nan (.inl h2)]
  unfold valF
  rw [← key]
  cases hb : floatBits op .f64 a b with
  | some x => rw [hb] at h; exact .inl h
  | none => rw [hb] at h; exact .inr ⟨h, nan_qnan⟩
end Go.Ev
