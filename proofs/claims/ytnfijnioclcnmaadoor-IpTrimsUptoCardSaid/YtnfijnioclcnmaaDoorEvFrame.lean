/- The frames, the operations of a frame, and that they agree with the world's. Holds for every program. -/
import Derived.Test.YtnfijnioclcnmaaDoorEvSpec
namespace Go.Ev
open Go

/-- A deferred call, or the mark of a range over a function. -/
inductive Dfr where
  | call (g : FuncId) (args : List Value)
  | mark
structure Fr where
  t : T Value
  n : Nat
  ds : List Dfr := []
def Fr.get (f : Fr) (i : Nat) : Value := (f.t.get i).getD undef
def Fr.put (f : Fr) (dst : Option Tmp) (v : Value) : Fr :=
  match dst with
  | none => f
  | some d => cond (Nat.blt d f.n) { f with t := f.t.set 24 d (some v) } f
def Fr.eval (f : Fr) : Operand → Value
  | .tmp t => f.get t
  | .const v => v
  | .global g => .pointer (some ⟨g, 0, none⟩)
  | .func g => .func (.func g) #[] #[]
theorem Fr.n_put (f : Fr) (dst : Option Tmp) (v : Value) : (f.put dst v).n = f.n := by
  unfold Fr.put
  cases dst with
  | none => rfl
  | some d => show (cond (Nat.blt d f.n) _ f).n = f.n; cases Nat.blt d f.n <;> rfl
theorem blt_lt {a b : Nat} (h : Nat.blt a b = true) : a < b := by rwa [Nat.blt_eq] at h
theorem not_blt {a b : Nat} (h : Nat.blt a b = false) : ¬ a < b := by rw [← Nat.blt_eq, h]; simp
theorem small_of_lt {a b : Nat} (h : small b = true) (hl : a < b) : small a = true := by
  unfold small at *
  rw [Nat.blt_eq] at *
  omega
theorem Fr.get_put (f : Fr) (hs : small f.n = true) (d : Tmp) (v : Value) (i : Nat) : (f.put (some d) v).get i = if i = d ∧ d < f.n then v else f.get i := by
  unfold Fr.put Fr.get
  cases hd : Nat.blt d f.n with
  | false =>
    have := not_blt hd
    simp only [hd, cond_false]
    rw [if_neg (fun e => this e.2)]
  | true =>
    have hlt := blt_lt hd
    have h1 := T.get_set 24 f.t d (some v) i (small_lt (small_of_lt hs hlt))
    simp only [hd, cond_true, h1, hlt, and_true]
    split <;> rfl

structure FrR (κ : K) (f : Fr) (a : Act) : Prop where
  size : a.tmps.size = f.n
  at_ : ∀ i, VR κ (f.get i) (a.tmps.getD i undef)
theorem FrR.mono {κ κ' : K} (hk : κ.le κ') {f : Fr} {a : Act} (h : FrR κ f a) : FrR κ' f a := ⟨h.size, fun i => (h.at_ i).mono hk⟩
theorem undef_flat : flatV undef = true := rfl
theorem act_put (a : Act) (d : Tmp) (v : Value) (i : Nat) : (a.put (some d) v).tmps.getD i undef = if i = d ∧ d < a.tmps.size then v else a.tmps.getD i undef := by
  simp only [Act.put, Array.getD_eq_getD_getElem?, Array.getElem?_setIfInBounds]
  by_cases h : d = i
  · subst h
    by_cases hd : d < a.tmps.size
    · simp [hd]
    · simp [hd]
  · rw [if_neg h, if_neg (fun e => h e.1.symm)]
theorem FrR.put {κ : K} {f : Fr} {a : Act} (h : FrR κ f a) (hs : small f.n = true) (dst : Option Tmp) {v v' : Value} (hv : VR κ v v') : FrR κ (f.put dst v) (a.put dst v') := by
  cases dst with
  | none => exact h
  | some d =>
    refine ⟨by rw [Fr.n_put]; simp only [Act.put, Array.size_setIfInBounds]; exact h.size, fun i => ?_⟩
    rw [Fr.get_put f hs, act_put, h.size]
    split
    · exact hv
    · exact h.at_ i

def operandOk (gl : Nat) : Operand → Bool
  | .const v => flatV v
  | .global g => Nat.blt g gl
  | _ => true
/-- The first blocks, the program's variables, stand for themselves. -/
def KG (gl : Nat) (κ : K) : Prop := ∀ g, g < gl → ∃ b, κ g = some b ∧ b.blk = g ∧ b.sh = 0
theorem KG.mono {gl : Nat} {κ κ' : K} (hk : κ.le κ') (h : KG gl κ) : KG gl κ' := fun g hg => let ⟨b, h1, h2⟩ := h g hg; ⟨b, hk _ _ h1, h2⟩
theorem eval_rel {gl : Nat} {κ : K} (hg : KG gl κ) {f : Fr} {a : Act} {x : Operand} (hx : ∀ t, x = .tmp t → VR κ (f.get t) (a.tmps.getD t undef)) (ho : operandOk gl x = true) : VR κ (f.eval x) (a.eval x) := by
  cases x with
  | tmp t => exact hx t rfl
  | const v => exact VR.flat v ho
  | global g =>
    obtain ⟨b, h1, h2, h3⟩ := hg g (blt_lt ho)
    exact .ptr ⟨rfl, b, h1, by rw [h2, h3, Nat.zero_add]⟩
  | func g => exact .func (fun l e => by cases e) .nil .nil

/-! ### operations over numbers and texts alone -/

def prun {α : Type} (P : Program) : Sem α → Option α
  | .pure a => some a
  | .program k => prun P (k P)
  | .mark _ k => prun P k
  | .choose q k => cond q.forced (prun P (k 0)) none
  | _ => none
theorem prun_run {α : Type} {P : Program} {s : Sem α} {a : α} (h : prun P s = some a) (w : World) : s.run P w = .ok a w := by
  induction s with
  | pure b => simp only [prun, Option.some.injEq] at h; subst h; rfl
  | program k ih => exact ih P h
  | mark m k ih => exact ih h
  | choose q k ih =>
    simp only [prun] at h
    cases hq : q.forced with
    | false => rw [hq] at h; cases h
    | true => rw [hq] at h; simp only [Sem.run, hq, if_true]; exact ih 0 h
  | _ => cases h
def flatRoute (P : Program) (ρ : Operand → Value) (o : Oper) : Option Value :=
  cond (o.op.operands.toList.all fun x => flatV (ρ x))
    (match prun P (execOp ρ o) with
      | some (.value v) => cond (flatV v) (some v) none
      | some .skip => some undef
      | _ => none) none

/-- What an operation comes to in the world. -/
def OpGives (P : Program) (o : Oper) (a : Act) (w : World) (v' : Value) (w' : World) : Prop :=
  (execOp a.eval o).run P w = .ok (.value v') w' ∨ ((execOp a.eval o).run P w = .ok .skip w' ∧ v' = undef)

theorem flat_sound {P : Program} {κ : K} {ρ : Operand → Value} {o : Oper} {a : Act} {v : Value} (h : flatRoute P ρ o = some v) (hs : ∀ cs b, o.op ≠ .select cs b)
    (hρ : ∀ x ∈ o.op.operands, VR κ (ρ x) (a.eval x)) (w : World) : OpGives P o a w v w ∧ VR κ v v := by
  unfold flatRoute at h
  cases hall : (o.op.operands.toList.all fun x => flatV (ρ x)) with
  | false => rw [hall] at h; cases h
  | true =>
    rw [hall] at h
    simp only [cond_true] at h
    have heq : execOp a.eval o = execOp ρ o := execOp_congr o hs fun x hx => VR.eq_of_flat (hρ x hx) (List.all_eq_true.1 hall x (by simpa using hx))
    unfold OpGives
    rw [heq]
    split at h
    · rename_i u hu
      cases hf : flatV u with
      | false => rw [hf] at h; cases h
      | true => rw [hf] at h; cases h; exact ⟨.inl (prun_run hu w), VR.flat v hf⟩
    · rename_i hu
      cases h
      exact ⟨.inr ⟨prun_run hu w, rfl⟩, VR.flat _ undef_flat⟩
    · cases h
end Go.Ev
