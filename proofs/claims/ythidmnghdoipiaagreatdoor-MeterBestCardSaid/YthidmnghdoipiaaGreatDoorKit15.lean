/- A certified evaluator of calls, run by the kernel, with its rules for what is not known: what it tells holds of every program. -/
import Derived.Test.YthidmnghdoipiaaGreatDoorKit7
namespace Go.Ev
open Go Go.RowKit

section
variable {P : Program} {gl : Nat}
def apNilWRun (P : Program) (gl : Nat) (f : Fr) (o : Oper) (h : AH) : Option ((Value × AH) × List Prop) :=
  cond (o.op.operands.toList.all (operandOk gl))
    (match o.op with
      | .call c => match c.callee, c.argTypes.toList, c.args.toList.map f.eval with
        | .builtin .append, [t, xt], [.slice none 0 0, .slice (some a) m _] => match P.underlying t, P.underlying xt, a.spot, h.get a.block with
          | some (.slice e), some (.slice _), none, some (.cells cs _ _ _ _ _) => match P.info? e with
            | some i => match i.zero with
              | some z => cond (Nat.beq i.size 1 && Nat.beq z.cells.size 1 && Nat.beq (P.cellsOf e) 1 && small h.n)
                (some ((.slice (some ⟨h.n, 0, none⟩) m m, (h.rdBit a.block).push (.cells (takeL cs a.off m) e 0 0 false false)),
                  [0 < m, m ≤ 140737488355328, m * i.bytes ≤ 140737488355328, a.off + m ≤ cs.length, (takeL cs a.off m).all oneCell = true])) none
              | none => none
            | none => none
          | _, _, _, _ => none
        | _, _, _ => none
      | _ => none) none
theorem apNilW_ok : ∀ P gl f o h r ps, isCall P f o = none → apNilWRun P gl f o h = some (r, ps) → All ps → evR P gl noF f o h = some r := by
  intro P gl f o h r ps _ e hp
  unfold apNilWRun at e
  cases hc : o.op.operands.toList.all (operandOk gl) with
  | false => rw [hc] at e; cases e
  | true =>
    rw [hc] at e
    simp only [cond_true] at e
    split at e
    · rename_i cl ho
      split at e
      · rename_i t xt a m cx hcal hat hargs
        split at e
        · rename_i el ex' cs e0 lo hi ex st ht hxt hsp hg
          split at e
          · rename_i i hi
            split at e
            · rename_i z hz
              cases hs : (Nat.beq i.size 1 && Nat.beq z.cells.size 1 && Nat.beq (P.cellsOf el) 1 && small h.n) with
              | false => rw [hs] at e; cases e
              | true =>
                rw [hs] at e
                cases e
                simp only [Bool.and_eq_true, beq_eq, decide_eq_true_eq] at hs
                obtain ⟨⟨⟨s1, s3⟩, s4⟩, s5⟩ := hs
                have b1 := hp _ (List.mem_cons_self ..)
                have b2 := hp _ (List.mem_cons_of_mem _ (List.mem_cons_self ..))
                have b9 := hp _ (List.mem_cons_of_mem _ (List.mem_cons_of_mem _ (List.mem_cons_self ..)))
                have b3 := hp _ (List.mem_cons_of_mem _ (List.mem_cons_of_mem _ (List.mem_cons_of_mem _ (List.mem_cons_self ..))))
                have b4 := hp _ (List.mem_cons_of_mem _ (List.mem_cons_of_mem _ (List.mem_cons_of_mem _ (List.mem_cons_of_mem _ (List.mem_singleton.2 rfl)))))
                clear hp
                unfold evR orEv
                rw [sp0_append ho hcal]
                simp only []
                unfold aop
                rw [hc]
                simp only [cond_true]
                rw [ho]
                simp only []
                rw [hcal]
                simp only []
                rw [hat, hargs]
                have hl : arun P (Builtin.lenOf (.slice (some a) m cx)) h = some (m, h) := rfl
                have hn0 : arun P (Builtin.firstCells i.size 0 (.slice none 0 0)) h = some (#[], h) := rfl
                have hn1 : arun P (Builtin.firstCells i.size m (.slice (some a) m cx)) h = some (⟨takeL cs a.off m⟩, h.rdBit a.block) := by
                  rw [s1]; exact arun_first hsp hg b1 b3 b4
                have hfit : fitA P t (.slice none 0 0) (.slice (some a) m cx) h = none := by
                  unfold fitA
                  simp only [ht, hi, hl]
                  rw [show Nat.ble (0 + m) 0 = false by rw [Bool.eq_false_iff, ne_eq, Nat.ble_eq]; omega]
                  rfl
                have hgrow : growA P t (.slice none 0 0) (.slice (some a) m cx) h = some (.slice (some ⟨h.n, 0, none⟩) m m, (h.rdBit a.block).push (.cells (takeL cs a.off m) el 0 0 false false)) := by
                  unfold growA
                  simp only [ht, hi, hz, hl, hn0, hn1]
                  have hlen := len_takeL b3
                  have hcond : (Nat.blt 0 (0 + m) && Nat.ble ((0 + m) * i.bytes) 140737488355328 && Nat.ble (0 + m) 140737488355328 && small (h.rdBit a.block).n && Nat.beq z.cells.size i.size && Nat.beq (#[] : Array Value).size (0 * i.size) && Nat.beq (⟨takeL cs a.off m⟩ : Array Value).size (m * i.size) && (⟨takeL cs a.off m⟩ : Array Value).toList.all oneCell && Nat.beq (P.cellsOf el) i.size) = true := by
                    simp only [Bool.and_eq_true, beq_eq, decide_eq_true_eq, Nat.ble_eq, Nat.blt_eq, s1, s3, s4, Nat.mul_one, Nat.zero_add]
                    refine ⟨⟨⟨⟨⟨⟨⟨⟨b1, b9⟩, b2⟩, s5⟩, trivial⟩, rfl⟩, ?_⟩, b4⟩, trivial⟩
                    show (takeL cs a.off m).length = m
                    exact hlen
                  rw [hcond]
                  simp only [cond_true, growIn, Nat.zero_add]
                  rfl
                unfold appendA
                simp only [hxt, hfit, hgrow]
            · cases e
          · cases e
        · cases e
      · cases e
    · cases e
def apNilWRule : OpRule := ⟨apNilWRun, apNilW_ok⟩
def apWRun (P : Program) (gl : Nat) (f : Fr) (o : Oper) (h : AH) : Option ((Value × AH) × List Prop) :=
  cond (o.op.operands.toList.all (operandOk gl))
    (match o.op with
      | .call c => match c.callee, c.argTypes.toList, c.args.toList.map f.eval with
        | .builtin .append, [t, xt], [.slice (some b) n0 c0, .slice (some a) m _] => match P.underlying t, P.underlying xt, a.spot, h.get a.block with
          | some (.slice e), some (.slice _), none, some (.cells cs _ _ _ _ _) => match P.info? e, b.spot, h.get b.block with
            | some i, none, some (.cells c1 e1 0 0 false false) => match i.zero with
              | some z => cond (Nat.beq i.size 1 && Nat.beq z.cells.size 1 && Nat.beq (P.cellsOf e) 1 && Nat.beq e1 e && small h.n && small b.block)
                (some ((.slice (some ⟨h.n, 0, none⟩) (n0 + m) (n0 + m), (((h.rdBit b.block).rdBit a.block).kill b.block).push (.cells (takeL c1 b.off n0 ++ takeL cs a.off m) e 0 0 false false)),
                  [0 < n0, 0 < m, c0 < n0 + m, n0 + m ≤ 140737488355328, (n0 + m) * i.bytes ≤ 140737488355328, b.off + n0 ≤ c1.length, a.off + m ≤ cs.length, (takeL c1 b.off n0).all oneCell = true, (takeL cs a.off m).all oneCell = true])) none
              | none => none
            | _, _, _ => none
          | _, _, _, _ => none
        | _, _, _ => none
      | _ => none) none
theorem apW_ok : ∀ P gl f o h r ps, isCall P f o = none → apWRun P gl f o h = some (r, ps) → All ps → evR P gl noF f o h = some r := by
  intro P gl f o h r ps _ e hp
  unfold apWRun at e
  cases hc : o.op.operands.toList.all (operandOk gl) with
  | false => rw [hc] at e; cases e
  | true =>
    rw [hc] at e
    simp only [cond_true] at e
    split at e
    · rename_i cl ho
      split at e
      · rename_i t xt b n0 c0 a m cx hcal hat hargs
        split at e
        · rename_i el ex' cs e0 lo hi ex st ht hxt hsp hg
          split at e
          · rename_i i c1 e1 hi hsb hgb
            split at e
            · rename_i z hz
              cases hs : (Nat.beq i.size 1 && Nat.beq z.cells.size 1 && Nat.beq (P.cellsOf el) 1 && Nat.beq e1 el && small h.n && small b.block) with
              | false => rw [hs] at e; cases e
              | true =>
                rw [hs] at e
                cases e
                simp only [Bool.and_eq_true, beq_eq, decide_eq_true_eq] at hs
                obtain ⟨⟨⟨⟨⟨s1, s3⟩, s4⟩, s5⟩, s6⟩, s7⟩ := hs
                subst s5
                have b1 := hp _ (by simp : (0 < n0) ∈ _)
                have hp2 : All [0 < m, c0 < n0 + m, n0 + m ≤ 140737488355328, (n0 + m) * i.bytes ≤ 140737488355328, b.off + n0 ≤ c1.length, a.off + m ≤ cs.length, (takeL c1 b.off n0).all oneCell = true, (takeL cs a.off m).all oneCell = true] := fun p hp' => hp p (List.mem_cons_of_mem _ hp')
                have b2 : 0 < m := hp2 _ (List.mem_cons_self ..)
                have hp3 : All [c0 < n0 + m, n0 + m ≤ 140737488355328, (n0 + m) * i.bytes ≤ 140737488355328, b.off + n0 ≤ c1.length, a.off + m ≤ cs.length, (takeL c1 b.off n0).all oneCell = true, (takeL cs a.off m).all oneCell = true] := fun p hp' => hp2 p (List.mem_cons_of_mem _ hp')
                have b3 : c0 < n0 + m := hp3 _ (List.mem_cons_self ..)
                have hp4 : All [n0 + m ≤ 140737488355328, (n0 + m) * i.bytes ≤ 140737488355328, b.off + n0 ≤ c1.length, a.off + m ≤ cs.length, (takeL c1 b.off n0).all oneCell = true, (takeL cs a.off m).all oneCell = true] := fun p hp' => hp3 p (List.mem_cons_of_mem _ hp')
                have b4 : n0 + m ≤ 140737488355328 := hp4 _ (List.mem_cons_self ..)
                have hp4b : All [(n0 + m) * i.bytes ≤ 140737488355328, b.off + n0 ≤ c1.length, a.off + m ≤ cs.length, (takeL c1 b.off n0).all oneCell = true, (takeL cs a.off m).all oneCell = true] := fun p hp' => hp4 p (List.mem_cons_of_mem _ hp')
                have b9 : (n0 + m) * i.bytes ≤ 140737488355328 := hp4b _ (List.mem_cons_self ..)
                have hp5 : All [b.off + n0 ≤ c1.length, a.off + m ≤ cs.length, (takeL c1 b.off n0).all oneCell = true, (takeL cs a.off m).all oneCell = true] := fun p hp' => hp4b p (List.mem_cons_of_mem _ hp')
                have b5 : b.off + n0 ≤ c1.length := hp5 _ (List.mem_cons_self ..)
                have hp6 : All [a.off + m ≤ cs.length, (takeL c1 b.off n0).all oneCell = true, (takeL cs a.off m).all oneCell = true] := fun p hp' => hp5 p (List.mem_cons_of_mem _ hp')
                have b6 : a.off + m ≤ cs.length := hp6 _ (List.mem_cons_self ..)
                have hp7 : All [(takeL c1 b.off n0).all oneCell = true, (takeL cs a.off m).all oneCell = true] := fun p hp' => hp6 p (List.mem_cons_of_mem _ hp')
                have b7 : (takeL c1 b.off n0).all oneCell = true := hp7 _ (List.mem_cons_self ..)
                have b8 : (takeL cs a.off m).all oneCell = true := hp7 _ (List.mem_cons_of_mem _ (List.mem_cons_self ..))
                clear hp hp2 hp3 hp4 hp4b hp5 hp6 hp7
                unfold evR orEv
                rw [sp0_append ho hcal]
                simp only []
                unfold aop
                rw [hc]
                simp only [cond_true]
                rw [ho]
                simp only []
                rw [hcal]
                simp only []
                rw [hat, hargs]
                have hl : arun P (Builtin.lenOf (.slice (some a) m cx)) h = some (m, h) := rfl
                have hn0 : arun P (Builtin.firstCells i.size n0 (.slice (some b) n0 c0)) h = some (⟨takeL c1 b.off n0⟩, h.rdBit b.block) := by
                  rw [s1]; exact arun_first hsb hgb b1 b5 b7
                have hn1 : arun P (Builtin.firstCells i.size m (.slice (some a) m cx)) (h.rdBit b.block) = some (⟨takeL cs a.off m⟩, (h.rdBit b.block).rdBit a.block) := by
                  rw [s1]; exact arun_first (h := h.rdBit b.block) hsp hg b2 b6 b8
                have hfit : fitA P t (.slice (some b) n0 c0) (.slice (some a) m cx) h = none := by
                  unfold fitA
                  simp only [ht, hi, hl]
                  rw [show Nat.ble (n0 + m) c0 = false by rw [Bool.eq_false_iff, ne_eq, Nat.ble_eq]; omega]
                  rfl
                have hgrow : growA P t (.slice (some b) n0 c0) (.slice (some a) m cx) h = some (.slice (some ⟨h.n, 0, none⟩) (n0 + m) (n0 + m), (((h.rdBit b.block).rdBit a.block).kill b.block).push (.cells (takeL c1 b.off n0 ++ takeL cs a.off m) e1 0 0 false false)) := by
                  unfold growA
                  simp only [ht, hi, hz, hl, hn0, hn1]
                  have hlen0 := len_takeL b5
                  have hlen1 := len_takeL b6
                  have hcond : (Nat.blt c0 (n0 + m) && Nat.ble ((n0 + m) * i.bytes) 140737488355328 && Nat.ble (n0 + m) 140737488355328 && small ((h.rdBit b.block).rdBit a.block).n && Nat.beq z.cells.size i.size && Nat.beq (⟨takeL c1 b.off n0⟩ : Array Value).size (n0 * i.size) && Nat.beq (⟨takeL cs a.off m⟩ : Array Value).size (m * i.size) && (⟨takeL cs a.off m⟩ : Array Value).toList.all oneCell && Nat.beq (P.cellsOf e1) i.size) = true := by
                    simp only [Bool.and_eq_true, beq_eq, decide_eq_true_eq, Nat.ble_eq, Nat.blt_eq, s1, s3, s4, Nat.mul_one]
                    refine ⟨⟨⟨⟨⟨⟨⟨⟨b3, b9⟩, b4⟩, s6⟩, trivial⟩, ?_⟩, ?_⟩, b8⟩, trivial⟩
                    · show (takeL c1 b.off n0).length = n0
                      exact hlen0
                    · show (takeL cs a.off m).length = m
                      exact hlen1
                  rw [hcond]
                  have hgb' : ((h.rdBit b.block).rdBit a.block).get b.block = some (.cells c1 e1 0 0 false false) := hgb
                  have hcd : (Nat.ble 0 0 && Nat.beq e1 e1 && Nat.beq (P.cellsOf e1) i.size && small b.block && (Nat.ble 0 0 || (Nat.ble b.off 0 && Nat.ble 0 (b.off + n0 * i.size) && !(Nat.beq n0 0)))) = true := by
                    simp only [s1, s4, s7, beq_eq, decide_true, Bool.and_true, show Nat.ble 0 0 = true from rfl, Bool.true_or]
                  simp only [cond_true, growIn, hgb', cond_false, hcd, Nat.zero_sub]
                  rfl
                unfold appendA
                simp only [hxt, hfit, hgrow]
            · cases e
          · cases e
        · cases e
      · cases e
    · cases e
def apWRule : OpRule := ⟨apWRun, apW_ok⟩
end
end Go.Ev
