/- Rules for appending rows that are not known, and for remainders. Holds for every program. -/
import Derived.Test.YtnfijnioclcnmaaDoorSxGoto
namespace Go.Ev
open Go Go.RowKit

section
variable {P : Program} {gl : Nat}

/-! ### a remainder -/

def remRun (v : Int) (P : Program) (gl : Nat) (f : Fr) (o : Oper) (h : AH) : Option ((Value × AH) × List Prop) :=
  cond (o.op.operands.toList.all (operandOk gl))
    (match o.op with
      | .binOp .rem _ x y _ => match f.eval x, f.eval y with
        | .int .i64 a, .int .i64 b => some ((.int .i64 v, h), [b ≠ 0, a.tmod b = v])
        | _, _ => none
      | _ => none) none
theorem rem_ok (v : Int) : ∀ P gl f o h r ps, isCall P f o = none → remRun v P gl f o h = some (r, ps) → All ps → evR P gl noF f o h = some r := by
  intro P gl f o h r ps _ e hp
  unfold remRun at e
  cases hc : o.op.operands.toList.all (operandOk gl) with
  | false => rw [hc] at e; cases e
  | true =>
    rw [hc] at e
    simp only [cond_true] at e
    split at e
    · rename_i t x y ty ho
      split at e
      · rename_i a b hx hy
        cases e
        have h0 := hp _ (List.mem_cons_self ..)
        have h1 := hp _ (List.mem_cons_of_mem _ (List.mem_singleton.2 rfl))
        have hs : sp0 P gl f o h = none := by
          unfold sp0 checked special
          rw [hc, ho]; rfl
        unfold evR orEv
        rw [hs]
        simp only []
        unfold aop
        rw [hc]
        simp only [cond_true]
        rw [ho]
        simp only []
        unfold plainA
        have hfl : flatRoute P f.eval o = some (.int .i64 v) := by
          unfold flatRoute
          have hall : (o.op.operands.toList.all fun x => flatV (f.eval x)) = true := by
            rw [ho]
            simp [Op.operands, hx, hy, flatV]
          rw [hall]
          have : prun P (execOp f.eval o) = some (.value (.int .i64 v)) := by
            unfold execOp
            rw [ho]
            simp only [hx, hy]
            unfold eqGuard Go.binOp Op.intDiv
            simp only [ne_eq, not_true_eq_false, if_false, h0, ← h1]
            rfl
          rw [this]
          rfl
        rw [hfl]
      · cases e
    · cases e
def remRule (v : Int) : OpRule := ⟨remRun v, rem_ok v⟩

/-! ### a row's cells -/

def takeL (c : List Value) (o k : Nat) : List Value := (c.drop o).take k
theorem rdBit_twice (h : AH) (b : Nat) : (h.rdBit b).rdBit b = h.rdBit b := by
  unfold AH.rdBit
  simp only [Nat.or_assoc, Nat.or_self]
theorem arun_cellsFrom {c : List Value} {e : TypeId} {lo hi : Nat} {ex st : Bool} {a : Addr} (hs : a.spot = none) : ∀ (k i : Nat) (acc : Array Value) (h : AH), h.get a.block = some (.cells c e lo hi ex st) → a.off + i + k ≤ c.length →
    (takeL c (a.off + i) k).all oneCell = true → arun P (loadCellsFrom a i k acc) h = some (⟨acc.toList ++ takeL c (a.off + i) k⟩, if k = 0 then h else h.rdBit a.block)
  | 0, i, acc, h, _, _, _ => by
    simp [loadCellsFrom, takeL, pure, arun]
  | k + 1, i, acc, h, hg, hl, ho => by
    have hlt : a.off + i < c.length := by omega
    have hd : takeL c (a.off + i) (k + 1) = c[a.off + i] :: takeL c (a.off + (i + 1)) k := by
      unfold takeL
      rw [List.drop_eq_getElem_cons hlt, List.take_succ_cons]
      rfl
    rw [hd] at ho ⊢
    simp only [List.all_cons, Bool.and_eq_true] at ho
    have h1 : arun P (load (a.add i)) h = some (c[a.off + i], h.rdBit a.block) := by
      rw [addr_add hs]
      simp only [load, arun, hg, nth_eq, List.getElem?_eq_getElem hlt, ho.1, cond_true]
    have hg' : (h.rdBit a.block).get a.block = some (.cells c e lo hi ex st) := hg
    have ih := arun_cellsFrom hs k (i + 1) (acc.push c[a.off + i]) (h.rdBit a.block) hg' (by omega) ho.2
    have e' : loadCellsFrom a i (k + 1) acc = (load (a.add i)).bind fun v => loadCellsFrom a (i + 1) k (acc.push v) := rfl
    rw [e', arun_bind, h1]
    simp only [Option.bind_some]
    rw [ih]
    simp only [Nat.add_one_ne_zero, if_false, Array.toList_push, List.append_assoc, List.singleton_append]
    by_cases hk : k = 0
    · subst hk; simp
    · simp only [hk, if_false, rdBit_twice]
theorem arun_first {c : List Value} {e : TypeId} {lo hi : Nat} {ex st : Bool} {a : Addr} (hs : a.spot = none) {h : AH} (hg : h.get a.block = some (.cells c e lo hi ex st)) {m k cx : Nat} (hm : 0 < m) (hl : a.off + m ≤ c.length) (ho : (takeL c a.off m).all oneCell = true) :
    arun P (Builtin.firstCells 1 m (.slice (some a) k cx)) h = some (⟨takeL c a.off m⟩, h.rdBit a.block) := by
  have := arun_cellsFrom (P := P) hs m 0 #[] h hg (by omega) ho
  unfold Builtin.firstCells loadCells
  rw [Nat.mul_one, this, if_neg (by omega)]
  simp

/-! ### appending a row to nothing -/

def apNilRun (P : Program) (gl : Nat) (f : Fr) (o : Oper) (h : AH) : Option ((Value × AH) × List Prop) :=
  cond (o.op.operands.toList.all (operandOk gl))
    (match o.op with
      | .call c => match c.callee, c.argTypes.toList, c.args.toList.map f.eval with
        | .builtin .append, [t, xt], [.slice none 0 0, .slice (some a) m _] => match P.underlying t, P.underlying xt, a.spot, h.get a.block with
          | some (.slice e), some (.slice _), none, some (.cells cs _ _ _ _ _) => match P.info? e with
            | some i => match i.zero with
              | some z => cond (Nat.beq i.size 1 && Nat.beq i.bytes 1 && Nat.beq z.cells.size 1 && Nat.beq (P.cellsOf e) 1 && small h.n)
                (some ((.slice (some ⟨h.n, 0, none⟩) m m, (h.rdBit a.block).push (.cells (takeL cs a.off m) e 0 0 false false)),
                  [0 < m, m ≤ 140737488355328, a.off + m ≤ cs.length, (takeL cs a.off m).all oneCell = true])) none
              | none => none
            | none => none
          | _, _, _, _ => none
        | _, _, _ => none
      | _ => none) none
theorem sp0_append {f : Fr} {o : Oper} {h : AH} {c : Call} (ho : o.op = .call c) (hc : c.callee = .builtin .append) : sp0 P gl f o h = none := by
  unfold sp0 checked special
  cases o.op.operands.toList.all (operandOk gl) with
  | false => rfl
  | true =>
    rw [ho]
    simp only [cond_true]
    rw [hc]
theorem len_takeL {c : List Value} {o k : Nat} (h : o + k ≤ c.length) : (takeL c o k).length = k := by
  unfold takeL; simp; omega
theorem apNil_ok : ∀ P gl f o h r ps, isCall P f o = none → apNilRun P gl f o h = some (r, ps) → All ps → evR P gl noF f o h = some r := by
  intro P gl f o h r ps _ e hp
  unfold apNilRun at e
  cases hc : o.op.operands.toList.all (operandOk gl) with
  | false => rw [hc] at e; cases e
  | true =>
    rw [hc] at e
    simp only [cond_true] at e
    split at e
    · rename_i cl ho
      split at e
      · rename_i t xt a m cx hcal hat hargs
        split at e
        · rename_i el ex' cs e0 lo hi ex st ht hxt hsp hg
          split at e
          · rename_i i hi
            split at e
            · rename_i z hz
              cases hs : (Nat.beq i.size 1 && Nat.beq i.bytes 1 && Nat.beq z.cells.size 1 && Nat.beq (P.cellsOf el) 1 && small h.n) with
              | false => rw [hs] at e; cases e
              | true =>
                rw [hs] at e
                cases e
                simp only [Bool.and_eq_true, beq_eq, decide_eq_true_eq] at hs
                obtain ⟨⟨⟨⟨s1, s2⟩, s3⟩, s4⟩, s5⟩ := hs
                have b1 := hp _ (List.mem_cons_self ..)
                have b2 := hp _ (List.mem_cons_of_mem _ (List.mem_cons_self ..))
                have b3 := hp _ (List.mem_cons_of_mem _ (List.mem_cons_of_mem _ (List.mem_cons_self ..)))
                have b4 := hp _ (List.mem_cons_of_mem _ (List.mem_cons_of_mem _ (List.mem_cons_of_mem _ (List.mem_singleton.2 rfl))))
                clear hp
                unfold evR orEv
                rw [sp0_append ho hcal]
                simp only []
                unfold aop
                rw [hc]
                simp only [cond_true]
                rw [ho]
                simp only []
                rw [hcal]
                simp only []
                rw [hat, hargs]
                have hl : arun P (Builtin.lenOf (.slice (some a) m cx)) h = some (m, h) := rfl
                have hn0 : arun P (Builtin.firstCells i.size 0 (.slice none 0 0)) h = some (#[], h) := rfl
                have hn1 : arun P (Builtin.firstCells i.size m (.slice (some a) m cx)) h = some (⟨takeL cs a.off m⟩, h.rdBit a.block) := by
                  rw [s1]; exact arun_first hsp hg b1 b3 b4
                have hfit : fitA P t (.slice none 0 0) (.slice (some a) m cx) h = none := by
                  unfold fitA
                  simp only [ht, hi, hl]
                  rw [show Nat.ble (0 + m) 0 = false by rw [Bool.eq_false_iff, ne_eq, Nat.ble_eq]; omega]
                  rfl
                have hgrow : growA P t (.slice none 0 0) (.slice (some a) m cx) h = some (.slice (some ⟨h.n, 0, none⟩) m m, (h.rdBit a.block).push (.cells (takeL cs a.off m) el 0 0 false false)) := by
                  unfold growA
                  simp only [ht, hi, hz, hl, hn0, hn1]
                  have hlen := len_takeL b3
                  have hcond : (Nat.blt 0 (0 + m) && Nat.ble ((0 + m) * i.bytes) 140737488355328 && Nat.ble (0 + m) 140737488355328 && small (h.rdBit a.block).n && Nat.beq z.cells.size i.size && Nat.beq (#[] : Array Value).size (0 * i.size) && Nat.beq (⟨takeL cs a.off m⟩ : Array Value).size (m * i.size) && (⟨takeL cs a.off m⟩ : Array Value).toList.all oneCell && Nat.beq (P.cellsOf el) i.size) = true := by
                    simp only [Bool.and_eq_true, beq_eq, decide_eq_true_eq, Nat.ble_eq, Nat.blt_eq, s1, s2, s3, s4, Nat.mul_one, Nat.zero_add]
                    refine ⟨⟨⟨⟨⟨⟨⟨⟨b1, b2⟩, b2⟩, s5⟩, trivial⟩, rfl⟩, ?_⟩, b4⟩, trivial⟩
                    show (takeL cs a.off m).length = m
                    exact hlen
                  rw [hcond]
                  simp only [cond_true, growIn, Nat.zero_add]
                  rfl
                unfold appendA
                simp only [hxt, hfit, hgrow]
            · cases e
          · cases e
        · cases e
      · cases e
    · cases e
def apNilRule : OpRule := ⟨apNilRun, apNil_ok⟩
end
end Go.Ev
