/- Appending nothing; a call at a heap of views, as it comes to a law. Holds for every program. -/
import Derived.Test.YtnfijnioclcnmaaDoorSxEq
import Derived.Test.YtnfijnioclcnmaaDoorSxCame
namespace Go.Ev
open Go Go.RowKit

section
variable {P : Program} {gl : Nat}
def noneOf : Value → Bool
  | .slice none 0 0 => true
  | .slice (some _) 0 _ => true
  | _ => false
def apZeroRun (P : Program) (gl : Nat) (f : Fr) (o : Oper) (h : AH) : Option ((Value × AH) × List Prop) :=
  cond (o.op.operands.toList.all (operandOk gl))
    (match o.op with
      | .call c => match c.callee, c.argTypes.toList, c.args.toList.map f.eval with
        | .builtin .append, [t, xt], [.slice (some b) n0 c0, x] => match P.underlying t, P.underlying xt with
          | some (.slice e), some (.slice _) => match P.info? e with
            | some _ => cond (noneOf x) (some ((.slice (some b) n0 c0, h), [n0 ≤ c0])) none
            | none => none
          | _, _ => none
        | _, _, _ => none
      | _ => none) none
theorem apZero_ok : ∀ P gl f o h r ps, isCall P f o = none → apZeroRun P gl f o h = some (r, ps) → All ps → evR P gl noF f o h = some r := by
  intro P gl f o h r ps _ e hp
  unfold apZeroRun at e
  cases hc : o.op.operands.toList.all (operandOk gl) with
  | false => rw [hc] at e; cases e
  | true =>
    rw [hc] at e
    simp only [cond_true] at e
    split at e
    · rename_i cl ho
      split at e
      · rename_i t xt b n0 c0 x hcal hat hargs
        split at e
        · rename_i el ex' ht hxt
          split at e
          · rename_i i hi
            cases hs : noneOf x with
            | false => rw [hs] at e; cases e
            | true =>
              rw [hs] at e
              cases e
              have b1 := hp _ (List.mem_singleton.2 rfl)
              have hl : arun P (Builtin.lenOf x) h = some (0, h) := by
                unfold noneOf at hs
                split at hs
                · rfl
                · rfl
                · cases hs
              have hf : arun P (Builtin.firstCells i.size 0 x) h = some (#[], h) := by
                unfold noneOf at hs
                split at hs
                · rfl
                · unfold Builtin.firstCells loadCells
                  simp only [Nat.zero_mul]
                  rfl
                · cases hs
              unfold evR orEv
              rw [sp0_append ho hcal]
              simp only []
              unfold aop
              rw [hc]
              simp only [cond_true]
              rw [ho]
              simp only []
              rw [hcal]
              simp only []
              rw [hat, hargs]
              have hfit : fitA P t (.slice (some b) n0 c0) x h = some (.slice (some b) n0 c0, h) := by
                unfold fitA
                simp only [ht, hi, hl, Nat.add_zero]
                rw [show Nat.ble n0 c0 = true by rw [Nat.ble_eq]; exact b1]
                simp only [cond_true, hf]
                rfl
              unfold appendA
              simp only [hxt, hfit]
          · cases e
        · cases e
      · cases e
    · cases e
def apZeroRule : OpRule := ⟨apZeroRun, apZero_ok⟩

/-! ### a law's call -/

def callOut (m : Nat) : PO (AEnd × AH) → Option (Value × List Prop)
  | some ((.ret v, h1), ps) => cond (flatV v && Nat.beq (Nat.land h1.wr (2 ^ m - 1)) 0) (some (v, ps)) none
  | _ => none
theorem call_came (hz : zerosFlat P = true) (hm : P.follows .mixedOrders = true) {H : Hints} (hH : H.Ok P 0) {k m : Nat} {g : FuncId} {args args' : List Value} {h0 : AH} {v : Value} {ps : List Prop} {e : TypeId} {rows : List (List Value × Addr)}
    (er : callOut m ((runHR P 0 H k).2 g args h0) = some (v, ps)) (hp : All ps) (wf : WF h0) (hn : h0.n = m) (hl : rows.length = m) (hg : ∀ id, id < m → h0.get id = cameG e rows id)
    {w : World} (hr : ∀ r ∈ rows, Came w r.1 r.2) (hargs : VL (cameK P w e rows) args args') :
    Calls P g ⟨args'⟩ w fun en w' => en = .returned v ∧ Below w.heap.size w w' := by
  unfold callOut at er
  split at er
  · rename_i v0 h1 qs he
    cases hc : (flatV v0 && Nat.beq (Nat.land h1.wr (2 ^ m - 1)) 0) with
    | false => rw [hc] at er; cases er
    | true =>
      rw [hc] at er
      cases er
      simp only [Bool.and_eq_true] at hc
      subst hl
      exact CTup.came (runHR_call hz hm hH he hp) wf hn hg (fun id hid => low_of hc.2 id hid) hc.1 hr hargs
  · cases er
/-- Heaps of one, of two views. -/
def cameH2 (cs ms : List Value) (e : TypeId) : AH := ⟨T.set 24 (T.set 24 .nil 0 (some (.cells cs e 1 0 false false))) 1 (some (.cells ms e 1 0 false false)), 2, 0, 0⟩
theorem cameH2_get (cs ms : List Value) (e : TypeId) (a b : Addr) (id : Nat) (h : id < 2) : (cameH2 cs ms e).get id = cameG e [(cs, a), (ms, b)] id := by
  rcases (by omega : id = 0 ∨ id = 1) with rfl | rfl <;> rfl
theorem cameH2_wf (cs ms : List Value) (e : TypeId) : WF (cameH2 cs ms e) := by
  refine ⟨fun id o h => ?_, fun id h => ?_⟩
  · have e2 := T.get_set 24 (T.set 24 (T.nil : T AObj) 0 (some (.cells cs e 1 0 false false))) 1 (some (.cells ms e 1 0 false false)) id (by decide)
    have e3 := T.get_set 24 (T.nil : T AObj) 0 (some (.cells cs e 1 0 false false)) id (by decide)
    have h' : (T.set 24 (T.set 24 (T.nil : T AObj) 0 (some (.cells cs e 1 0 false false))) 1 (some (.cells ms e 1 0 false false))).get id = some o := h
    rw [e2] at h'
    show id < 2
    by_cases h1 : id = 1
    · omega
    · rw [if_neg h1, e3] at h'
      by_cases h0 : id = 0
      · omega
      · rw [if_neg h0] at h'; cases h'
  · have h' : (0 : Nat).testBit id = true := h
    simp at h'
theorem cameH_get (cs : List Value) (e : TypeId) (a : Addr) (id : Nat) (h : id < 1) : (cameH cs e).get id = cameG e [(cs, a)] id := by
  obtain rfl : id = 0 := by omega
  rfl
end
end Go.Ev
