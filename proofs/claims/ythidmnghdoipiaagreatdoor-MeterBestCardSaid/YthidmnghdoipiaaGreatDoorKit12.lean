/- A certified evaluator of calls, run by the kernel, with its rules for what is not known: what it tells holds of every program. -/
import Derived.Laws.FloatArith
import Derived.Test.YthidmnghdoipiaaGreatDoorKit11
import Derived.Test.YthidmnghdoipiaaGreatDoorKit4
import Derived.Test.YthidmnghdoipiaaGreatDoorKit9
namespace Go.Ev
open Ieee Go

def FloatR (op : BinOp) (a b r : Nat) : Prop := match floatBits op .f64 a b with
  | some x => r = x
  | none => nanB r = true
theorem nan_cut (a b t : Nat) : nanB (Question.cut (.nanBits .f64 a b) t) = true := by
  have e : Question.cut (.nanBits .f64 a b) t = (t % 2) * 2 ^ 63 + 0x7ff0000000000000 + 1 + (t / 2) % (2 ^ 52 - 1) := rfl
  rw [e, nanB_eq]
  unfold nanW
  rw [rd64_eq]
  have hu : (t / 2) % (2 ^ 52 - 1) < 2 ^ 52 - 1 := Nat.mod_lt _ (by decide)
  generalize (t / 2) % (2 ^ 52 - 1) = u at hu
  have hs : t % 2 < 2 := Nat.mod_lt _ (by decide)
  generalize t % 2 = s at hs
  have hm : (s * 2 ^ 63 + 0x7ff0000000000000 + 1 + u) % 2 ^ 63 = 0x7ff0000000000000 + 1 + u := by omega
  rw [hm, if_neg (by omega), if_neg (by omega), if_neg (by omega)]
  rfl
theorem run_float_any {P : Program} (op : BinOp) (hop : op = .add ∨ op = .sub ∨ op = .mul ∨ op = .quo) (t : TypeId) (a b : Nat) (w : World) :
    ∃ r w', (binOp op t (.float .f64 a) (.float .f64 b)).run P w = .ok (.float .f64 r) w' ∧ (w' = w ∨ w' = w.drew) ∧ FloatR op a b r := by
  cases h : floatBits op .f64 a b with
  | some x => exact ⟨x, w, run_float_arith w op t .f64 a b x h, .inl rfl, by unfold FloatR; rw [h]⟩
  | none =>
    refine ⟨Question.cut (.nanBits .f64 a b) (w.tape w.drawn (.nanBits .f64 a b)), w.drew, ?_, .inr rfl, by unfold FloatR; rw [h]; exact nan_cut _ _ _⟩
    unfold floatBits at h
    rcases hop with rfl | rfl | rfl | rfl <;> simp only at h <;> (simp only [binOp, Op.floatArith, h]; rfl)
/-- Nothing that was there is turned. -/
structure Quiet (w w' : World) : Prop where
  os : w'.os = w.os
  tape : w'.tape = w.tape
  output : w'.output = w.output
  size : w.heap.size ≤ w'.heap.size
  keep : ∀ k, k < w.heap.size → w'.heap[k]? = w.heap[k]?
theorem Quiet.refl (w : World) : Quiet w w := ⟨rfl, rfl, rfl, Nat.le_refl _, fun _ _ => rfl⟩
theorem Quiet.trans {a b c : World} (h : Quiet a b) (h' : Quiet b c) : Quiet a c := ⟨h'.os.trans h.os, h'.tape.trans h.tape, h'.output.trans h.output, Nat.le_trans h.size h'.size, fun k hk => (h'.keep k (Nat.lt_of_lt_of_le hk h.size)).trans (h.keep k hk)⟩
theorem Quiet.of {w w' : World} (h : w' = w ∨ w' = w.drew) : Quiet w w' := by
  rcases h with rfl | rfl
  · exact Quiet.refl _
  · exact ⟨rfl, rfl, rfl, Nat.le_refl _, fun _ _ => rfl⟩
section
variable {P : Program} {gl : Nat}
/-- A contract of plain values, as the evaluator takes it. -/
theorem ctup_of_calls {g : FuncId} {args : List Value} {v : Value} (hf : flatL args = true) (hv : flatV v = true) (c : ∀ w, Calls P g ⟨args⟩ w fun e w' => e = .returned v ∧ Quiet w w') (h : AH) : CTup P gl g args h (.ret v) h := by
  intro wf
  refine ⟨⟨Ext.refl _, wf⟩, fun κ G args' w hg hrel hvl hag hfs => ?_⟩
  have e : args' = ⟨args⟩ := by
    have := VL.eq_of_flat hvl hf
    cases args'; simp_all
  subst e
  refine (c w).mono fun en w' hen => ?_
  obtain ⟨rfl, q⟩ := hen
  refine ⟨κ, .ret (VR.flat v hv), ?_, K.le_refl _, fun _ _ => rfl, fun _ _ e => .inl e, fun k hk _ => q.keep k hk, q.os, q.tape, q.output, q.size⟩
  rw [merge_self wf hag]
  exact ⟨fun i o hi => let ⟨b, hb, hin⟩ := hrel.at_ i o hi; ⟨b, hb, hin.heap (q.keep _ (hrel.old i b hb))⟩, hrel.one, fun i b hb => Nat.lt_of_lt_of_le (hrel.old i b hb) q.size⟩
/-- And back. -/
theorem calls_of_ctup {g : FuncId} {args : List Value} {v : Value} (t : ∀ h, CTup P 0 g args h (.ret v) h) (hf : flatL args = true) (hv : flatV v = true) (w : World) : Calls P g ⟨args⟩ w fun e w' => e = .returned v ∧ Quiet w w' :=
  (plain_law t hf hv (Nat.zero_le _)).mono fun _ _ h => ⟨h.1, h.2.os, h.2.tape, h.2.output, h.2.size, h.2.block⟩
end
/-! ### values, but for the bits of no number -/

def qnan : Nat := 9221120237041090561
def toldF (a : Nat) : Nat := bif nanB a then qnan else a
def valF (op : BinOp) (a b : Nat) : Nat := (floatBits op .f64 a b).getD qnan
def eqN (x y : Nat) : Prop := x = y ∨ (nanB x = true ∧ nanB y = true)
theorem nan_qnan : nanB qnan = true := by decide +kernel
theorem toldF_eq {x y : Nat} (h : eqN x y) : toldF x = toldF y := by
  rcases h with rfl | ⟨h1, h2⟩
  · rfl
  · unfold toldF; rw [h1, h2]; rfl
theorem nan_read {a : Nat} (h : nanB a = true) : ∃ s t, FloatKind.f64.format.read a = .nan s t := by
  rw [nanB_eq] at h
  unfold nanW rd64 at h
  have e : FloatKind.f64.format.read a = Ieee.double.read a := rfl
  rw [e]
  cases hd : Ieee.double.read a with
  | nan s t => exact ⟨s, t, rfl⟩
  | number s m i => rw [hd] at h; simp [Datum.isNaN] at h
  | infinity s => rw [hd] at h; simp [Datum.isNaN] at h
theorem floatBits_nan {op : BinOp} {a b : Nat} (h : nanB a = true ∨ nanB b = true) : floatBits op .f64 a b = none := by
  unfold floatBits
  rcases h with h | h
  · obtain ⟨s, t, e⟩ := nan_read h
    cases op <;> first | rfl | (simp only [Format.add, Format.sub, Format.mul, Format.div, e]; rfl)
  · obtain ⟨s, t, e⟩ := nan_read h
    cases op <;> first | rfl | (simp only [Format.add, Format.sub, Format.mul, Format.div, e]; cases FloatKind.f64.format.read a <;> rfl)
theorem FloatR.val {op : BinOp} {a b a' b' r : Nat} (h : FloatR op a b r) (ha : eqN a a') (hb : eqN b b') : eqN r (valF op a' b') := by
  unfold FloatR at h
  have key : floatBits op .f64 a b = floatBits op .f64 a' b' := by
    rcases ha with rfl | ⟨h1, h2⟩
    · rcases hb with rfl | ⟨h3, h4⟩
      · rfl
      · rw [floatBits_nan (.inr h3), floatBits_nan (.inr h4)]
    · rw [floatBits_nan (.inl h1), floatBits_nan (.inl h2)]
  unfold valF
  rw [← key]
  cases hb : floatBits op .f64 a b with
  | some x => rw [hb] at h; exact .inl h
  | none => rw [hb] at h; exact .inr ⟨h, nan_qnan⟩
end Go.Ev
namespace Go.Ev
open Ieee Go Go.RowKit

section
variable {P : Program} {gl : Nat}
def fltRun (op : BinOp) (_P : Program) (gl : Nat) (f : Fr) (o : Oper) (h : AH) : Option ((Value × AH) × List Prop) :=
  cond (o.op.operands.toList.all (operandOk gl))
    (match o.op with
      | .binOp b _ x y _ => match f.eval x, f.eval y with
        | .float .f64 p, .float .f64 q => cond (decide (b = op)) (some ((.float .f64 (valF op p q), h), [(floatBits op .f64 p q).isSome = true])) none
        | _, _ => none
      | _ => none) none
theorem prun_float {P : Program} (op : BinOp) (t : TypeId) (x y r : Nat) (h : floatBits op .f64 x y = some r) : prun P (Go.binOp op t (.float .f64 x) (.float .f64 y)) = some (.float .f64 r) := by
  unfold floatBits at h
  cases op <;> simp only at h <;> first | (cases h; done) | skip
  all_goals
    simp only [Go.binOp, Op.floatArith]
    show prun P _ = _
    simp [h]
    rfl
theorem flt_ok (op : BinOp) (hop : op = .add ∨ op = .sub ∨ op = .mul ∨ op = .quo)   : ∀ P gl f o h x ps, isCall P f o = none → fltRun op P gl f o h = some (x, ps) → All ps → evR P gl noF f o h = some x := by
  intro P gl f o h x ps _ e hp
  unfold fltRun at e
  cases hc : o.op.operands.toList.all (operandOk gl) with
  | false => rw [hc] at e; cases e
  | true =>
    rw [hc] at e
    simp only [cond_true] at e
    split at e
    · rename_i b t x y ty ho
      split at e
      · rename_i p q hx hy
        cases hd : decide (b = op) with
        | false => rw [hd] at e; cases e
        | true =>
          rw [hd] at e
          cases e
          have hb : b = op := by simpa using hd
          subst hb
          have h1 := hp _ (List.mem_singleton.2 rfl)
          have h0 : floatBits b .f64 p q = some (valF b p q) := by
            unfold valF
            cases hb : floatBits b .f64 p q with
            | none => rw [hb] at h1; cases h1
            | some z => rfl
          refine evR_flat hc (by unfold sp0 checked special; rw [hc, ho]; rfl) (by rw [ho]; intro c h; cases h) (by rw [ho]; intro c b h; cases h) (by rw [ho]; simp [Op.operands, hx, hy, flatV]) ?_ rfl
          unfold execOp
          rw [ho]
          simp only [hx, hy, prunM_bind]
          have hg : prun P (eqGuard b t x y (.float .f64 p) (.float .f64 q)) = some () := by
            rcases hop with rfl | rfl | rfl | rfl <;> rfl
          rw [hg, Option.bind_some, prun_float b t p q _ h0]
          rfl
      · cases e
    · cases e
/-- A product, a quotient that is known to be a number. -/
def mulRule : OpRule := ⟨fltRun .mul, flt_ok .mul (.inr (.inr (.inl rfl)))⟩
def quoRule : OpRule := ⟨fltRun .quo, flt_ok .quo (.inr (.inr (.inr rfl)))⟩
end

/-! ### which words are no NaN -/

theorem read_word (neg : Bool) (rung : Nat) (h : rung ≤ double.infRung) : (∃ m e, double.read (double.word neg rung) = .number neg m e) ∨ (double.read (double.word neg rung) = .infinity neg ∧ rung = double.infRung) := by
  have e1 : double.signWeight = 2 ^ 63 := by decide +kernel
  have e2 : double.infRung = 0x7ff0000000000000 := by decide +kernel
  rw [e2] at h ⊢
  have hs : (double.word neg rung / double.signWeight % 2 == 1) = neg := by
    unfold Format.word
    rw [e1]
    cases neg
    · have : rung / 2 ^ 63 % 2 = 0 := by omega
      simp only [Bool.false_eq_true, if_false]
      rw [this]; rfl
    · have : (2 ^ 63 + rung) / 2 ^ 63 % 2 = 1 := by omega
      simp only [if_true]
      rw [this]; rfl
  have hr : double.word neg rung % double.signWeight = rung := by
    unfold Format.word
    rw [e1]
    cases neg
    · simp only [Bool.false_eq_true, if_false]; omega
    · simp only [if_true]; omega
  unfold Format.read
  simp only [hs, hr, e2]
  by_cases h1 : rung < double.binade
  · rw [if_pos h1]; exact .inl ⟨_, _, rfl⟩
  · rw [if_neg h1]
    by_cases h2 : rung < 0x7ff0000000000000
    · rw [if_pos h2]; exact .inl ⟨_, _, rfl⟩
    · rw [if_neg h2, if_pos (by omega)]; exact .inr ⟨rfl, by omega⟩
theorem nearest_word (neg : Bool) (mag : Nat) (place : Int) : ∃ rung, double.nearest neg mag place = double.word neg rung ∧ rung ≤ double.infRung ∧ (mag = 0 → rung = 0) := by
  unfold Format.nearest
  by_cases h : mag = 0
  · rw [if_pos h]; exact ⟨0, rfl, Nat.zero_le _, fun _ => rfl⟩
  · rw [if_neg h]; exact ⟨_, rfl, Nat.min_le_right _ _, fun h' => absurd h' h⟩
/-- Numbers of Go's int64, and of any size, as floating-point words. -/
theorem ofInt_num (n : Int) : (∃ m e, double.read (floatOfInt .f64 n) = .number (decide (n < 0)) m e) ∨ double.read (floatOfInt .f64 n) = .infinity (decide (n < 0)) := by
  obtain ⟨rung, hr, hle, _⟩ := nearest_word (decide (n < 0)) n.natAbs 0
  have e : floatOfInt .f64 n = double.word (decide (n < 0)) rung := hr
  rw [e]
  rcases read_word (decide (n < 0)) rung hle with h | ⟨h, _⟩
  · exact .inl h
  · exact .inr h
/-- A thousand of any number of bytes. -/
theorem mul_int (n : Int) (k m : Nat) (e : Int) (s : Bool) (hk : double.read k = .number s m e) (hm : m ≠ 0) : ∃ r, floatBits .mul .f64 (floatOfInt .f64 n) k = some r := by
  have e0 : FloatKind.f64.format = double := rfl
  unfold floatBits
  simp only [Format.mul, e0, hk]
  rcases ofInt_num n with ⟨m', e', h⟩ | h
  · rw [h]; exact ⟨_, rfl⟩
  · rw [h]
    unfold Datum.product
    simp only [if_neg hm]
    exact ⟨_, rfl⟩
end Go.Ev
