/- A certified evaluator of calls, run by the kernel, with its rules for what is not known: what it tells holds of every program. -/
import Derived.Test.YthidmnghdoipiaaGreatDoorKit4
namespace Go.Ev
open Go Go.RowKit

section
variable {P : Program} {gl : Nat}

/-! ### appending a row to a row -/

def apRun (P : Program) (gl : Nat) (f : Fr) (o : Oper) (h : AH) : Option ((Value × AH) × List Prop) :=
  cond (o.op.operands.toList.all (operandOk gl))
    (match o.op with
      | .call c => match c.callee, c.argTypes.toList, c.args.toList.map f.eval with
        | .builtin .append, [t, xt], [.slice (some b) n0 c0, .slice (some a) m _] => match P.underlying t, P.underlying xt, a.spot, h.get a.block with
          | some (.slice e), some (.slice _), none, some (.cells cs _ _ _ _ _) => match P.info? e, b.spot, h.get b.block with
            | some i, none, some (.cells c1 e1 0 0 false false) => match i.zero with
              | some z => cond (Nat.beq i.size 1 && Nat.beq i.bytes 1 && Nat.beq z.cells.size 1 && Nat.beq (P.cellsOf e) 1 && Nat.beq e1 e && small h.n && small b.block)
                (some ((.slice (some ⟨h.n, 0, none⟩) (n0 + m) (n0 + m), (((h.rdBit b.block).rdBit a.block).kill b.block).push (.cells (takeL c1 b.off n0 ++ takeL cs a.off m) e 0 0 false false)),
                  [0 < n0, 0 < m, c0 < n0 + m, n0 + m ≤ 140737488355328, b.off + n0 ≤ c1.length, a.off + m ≤ cs.length, (takeL c1 b.off n0).all oneCell = true, (takeL cs a.off m).all oneCell = true])) none
              | none => none
            | _, _, _ => none
          | _, _, _, _ => none
        | _, _, _ => none
      | _ => none) none
theorem ap_ok : ∀ P gl f o h r ps, isCall P f o = none → apRun P gl f o h = some (r, ps) → All ps → evR P gl noF f o h = some r := by
  intro P gl f o h r ps _ e hp
  unfold apRun at e
  cases hc : o.op.operands.toList.all (operandOk gl) with
  | false => rw [hc] at e; cases e
  | true =>
    rw [hc] at e
    simp only [cond_true] at e
    split at e
    · rename_i cl ho
      split at e
      · rename_i t xt b n0 c0 a m cx hcal hat hargs
        split at e
        · rename_i el ex' cs e0 lo hi ex st ht hxt hsp hg
          split at e
          · rename_i i c1 e1 hi hsb hgb
            split at e
            · rename_i z hz
              cases hs : (Nat.beq i.size 1 && Nat.beq i.bytes 1 && Nat.beq z.cells.size 1 && Nat.beq (P.cellsOf el) 1 && Nat.beq e1 el && small h.n && small b.block) with
              | false => rw [hs] at e; cases e
              | true =>
                rw [hs] at e
                cases e
                simp only [Bool.and_eq_true, beq_eq, decide_eq_true_eq] at hs
                obtain ⟨⟨⟨⟨⟨⟨s1, s2⟩, s3⟩, s4⟩, s5⟩, s6⟩, s7⟩ := hs
                subst s5
                have b1 := hp _ (by simp : (0 < n0) ∈ _)
                have hp2 : All [0 < m, c0 < n0 + m, n0 + m ≤ 140737488355328, b.off + n0 ≤ c1.length, a.off + m ≤ cs.length, (takeL c1 b.off n0).all oneCell = true, (takeL cs a.off m).all oneCell = true] := fun p hp' => hp p (List.mem_cons_of_mem _ hp')
                have b2 : 0 < m := hp2 _ (List.mem_cons_self ..)
                have hp3 : All [c0 < n0 + m, n0 + m ≤ 140737488355328, b.off + n0 ≤ c1.length, a.off + m ≤ cs.length, (takeL c1 b.off n0).all oneCell = true, (takeL cs a.off m).all oneCell = true] := fun p hp' => hp2 p (List.mem_cons_of_mem _ hp')
                have b3 : c0 < n0 + m := hp3 _ (List.mem_cons_self ..)
                have hp4 : All [n0 + m ≤ 140737488355328, b.off + n0 ≤ c1.length, a.off + m ≤ cs.length, (takeL c1 b.off n0).all oneCell = true, (takeL cs a.off m).all oneCell = true] := fun p hp' => hp3 p (List.mem_cons_of_mem _ hp')
                have b4 : n0 + m ≤ 140737488355328 := hp4 _ (List.mem_cons_self ..)
                have hp5 : All [b.off + n0 ≤ c1.length, a.off + m ≤ cs.length, (takeL c1 b.off n0).all oneCell = true, (takeL cs a.off m).all oneCell = true] := fun p hp' => hp4 p (List.mem_cons_of_mem _ hp')
                have b5 : b.off + n0 ≤ c1.length := hp5 _ (List.mem_cons_self ..)
                have hp6 : All [a.off + m ≤ cs.length, (takeL c1 b.off n0).all oneCell = true, (takeL cs a.off m).all oneCell = true] := fun p hp' => hp5 p (List.mem_cons_of_mem _ hp')
                have b6 : a.off + m ≤ cs.length := hp6 _ (List.mem_cons_self ..)
                have hp7 : All [(takeL c1 b.off n0).all oneCell = true, (takeL cs a.off m).all oneCell = true] := fun p hp' => hp6 p (List.mem_cons_of_mem _ hp')
                have b7 : (takeL c1 b.off n0).all oneCell = true := hp7 _ (List.mem_cons_self ..)
                have b8 : (takeL cs a.off m).all oneCell = true := hp7 _ (List.mem_cons_of_mem _ (List.mem_cons_self ..))
                clear hp hp2 hp3 hp4 hp5 hp6 hp7
                unfold evR orEv
                rw [sp0_append ho hcal]
                simp only []
                unfold aop
                rw [hc]
                simp only [cond_true]
                rw [ho]
                simp only []
                rw [hcal]
                simp only []
                rw [hat, hargs]
                have hl : arun P (Builtin.lenOf (.slice (some a) m cx)) h = some (m, h) := rfl
                have hn0 : arun P (Builtin.firstCells i.size n0 (.slice (some b) n0 c0)) h = some (⟨takeL c1 b.off n0⟩, h.rdBit b.block) := by
                  rw [s1]; exact arun_first hsb hgb b1 b5 b7
                have hn1 : arun P (Builtin.firstCells i.size m (.slice (some a) m cx)) (h.rdBit b.block) = some (⟨takeL cs a.off m⟩, (h.rdBit b.block).rdBit a.block) := by
                  rw [s1]; exact arun_first (h := h.rdBit b.block) hsp hg b2 b6 b8
                have hfit : fitA P t (.slice (some b) n0 c0) (.slice (some a) m cx) h = none := by
                  unfold fitA
                  simp only [ht, hi, hl]
                  rw [show Nat.ble (n0 + m) c0 = false by rw [Bool.eq_false_iff, ne_eq, Nat.ble_eq]; omega]
                  rfl
                have hgrow : growA P t (.slice (some b) n0 c0) (.slice (some a) m cx) h = some (.slice (some ⟨h.n, 0, none⟩) (n0 + m) (n0 + m), (((h.rdBit b.block).rdBit a.block).kill b.block).push (.cells (takeL c1 b.off n0 ++ takeL cs a.off m) e1 0 0 false false)) := by
                  unfold growA
                  simp only [ht, hi, hz, hl, hn0, hn1]
                  have hlen0 := len_takeL b5
                  have hlen1 := len_takeL b6
                  have hcond : (Nat.blt c0 (n0 + m) && Nat.ble ((n0 + m) * i.bytes) 140737488355328 && Nat.ble (n0 + m) 140737488355328 && small ((h.rdBit b.block).rdBit a.block).n && Nat.beq z.cells.size i.size && Nat.beq (⟨takeL c1 b.off n0⟩ : Array Value).size (n0 * i.size) && Nat.beq (⟨takeL cs a.off m⟩ : Array Value).size (m * i.size) && (⟨takeL cs a.off m⟩ : Array Value).toList.all oneCell && Nat.beq (P.cellsOf e1) i.size) = true := by
                    simp only [Bool.and_eq_true, beq_eq, decide_eq_true_eq, Nat.ble_eq, Nat.blt_eq, s1, s2, s3, s4, Nat.mul_one]
                    refine ⟨⟨⟨⟨⟨⟨⟨⟨b3, b4⟩, b4⟩, s6⟩, trivial⟩, ?_⟩, ?_⟩, b8⟩, trivial⟩
                    · show (takeL c1 b.off n0).length = n0
                      exact hlen0
                    · show (takeL cs a.off m).length = m
                      exact hlen1
                  rw [hcond]
                  have hgb' : ((h.rdBit b.block).rdBit a.block).get b.block = some (.cells c1 e1 0 0 false false) := hgb
                  have hcd : (Nat.ble 0 0 && Nat.beq e1 e1 && Nat.beq (P.cellsOf e1) i.size && small b.block && (Nat.ble 0 0 || (Nat.ble b.off 0 && Nat.ble 0 (b.off + n0 * i.size) && !(Nat.beq n0 0)))) = true := by
                    simp only [s1, s4, s7, beq_eq, decide_true, Bool.and_true, show Nat.ble 0 0 = true from rfl, Bool.true_or]
                  simp only [cond_true, growIn, hgb', cond_false, hcd, Nat.zero_sub]
                  rfl
                unfold appendA
                simp only [hxt, hfit, hgrow]
            · cases e
          · cases e
        · cases e
      · cases e
    · cases e
def apRule : OpRule := ⟨apRun, ap_ok⟩
end
end Go.Ev
namespace Go.Ev
open Go Go.RowKit

section
variable {P : Program} {gl : Nat}
theorem prun_bind {α β : Type} (s : Sem α) (f : α → Sem β) : prun P (s.bind f) = (prun P s).bind fun a => prun P (f a) := by
  induction s with
  | pure a => rfl
  | program k ih => simp only [Sem.bind, prun]; exact ih P
  | mark m k ih => simp only [Sem.bind, prun]; exact ih
  | choose q k ih =>
    simp only [Sem.bind, prun]
    cases q.forced with
    | false => rfl
    | true => exact ih 0
  | _ => rfl
theorem prunM_bind {α β : Type} (s : Sem α) (f : α → Sem β) : prun P (s >>= f) = (prun P s).bind fun a => prun P (f a) := prun_bind s f
theorem prun_pure {α : Type} (a : α) : prun P (pure a : Sem α) = some a := rfl
theorem prun_program : prun P program = some P := rfl
theorem prun_underlying {t : TypeId} {d : TypeDesc} (ht : P.underlying t = some d) : prun P (underlying t) = some d := by
  unfold underlying
  rw [prunM_bind]
  simp only [prun_program, Option.bind_some, ht]
  rfl
theorem prun_sizeOf {t : TypeId} {i : TypeInfo} (ht : P.info? t = some i) : prun P (sizeOf t) = some i.size := by
  unfold sizeOf typeInfo
  rw [prunM_bind, prunM_bind]
  simp only [prun_program, Option.bind_some, ht]
  rfl
/-- Values that equal themselves, whatever their numbers. -/
def selfEq (P : Program) : Nat → TypeId → Value → Bool
  | 0, _, _ => false
  | d + 1, t, v => match P.underlying t, v with
    | some .bool, .bool _ => true
    | some (.int _), .int _ _ => true
    | some .string, .string _ => true
    | some (.struct fs), .agg xs => !P.stoodInHeld t && fs.toList.all fun f => f.name == "_" || (match prun P (part f.type xs f.offset) with
      | some u => selfEq P d f.type u
      | none => false)
    | some (.array n e), .agg xs => match P.info? e with
      | some i => (List.range n).all fun j => match prun P (part e xs (j * i.size)) with
        | some u => selfEq P d e u
        | none => false
      | none => false
    | _, _ => false
theorem selfEq_ok : ∀ {m : Nat} {t : TypeId} {v : Value} {d : Nat}, selfEq P m t v = true → m ≤ d → prun P (Op.equalIn d t v v) = some true
  | 0, _, _, _, h, _ => by cases h
  | m + 1, t, v, d, h, hd => by
    obtain ⟨d, rfl⟩ : ∃ d', d = d' + 1 := ⟨d - 1, by omega⟩
    unfold selfEq at h
    split at h
    · rename_i b ht
      simp only [Op.equalIn, prunM_bind, prun_underlying ht, Option.bind_some, prun_pure, beq_self_eq_true]
    · rename_i k n x ht
      simp only [Op.equalIn, prunM_bind, prun_underlying ht, Option.bind_some, if_true, prun_pure, beq_self_eq_true]
    · rename_i s ht
      simp only [Op.equalIn, prunM_bind, prun_underlying ht, Option.bind_some, prun_pure]
      obtain ⟨x⟩ := s
      show some (x == x) = some true
      simp
    · rename_i fs xs ht
      simp only [Bool.and_eq_true, Bool.not_eq_true'] at h
      obtain ⟨h1, h2⟩ := h
      simp only [Op.equalIn, prunM_bind, prun_underlying ht, Option.bind_some, prun_program, h1, Bool.false_eq_true, if_false]
      rw [← Array.forIn_toList]
      generalize fs.toList = l at h2
      clear ht
      induction l with
      | nil => simp [prun_pure]
      | cons f l ih =>
        simp only [List.all_cons, Bool.and_eq_true] at h2
        obtain ⟨h3, h4⟩ := h2
        have ih' := ih h4
        simp only [List.forIn_cons, prunM_bind] at ih' ⊢
        by_cases hn : f.name = "_"
        · simp only [hn, ne_eq, not_true_eq_false, if_false, prun_pure, Option.bind_some]
          exact ih'
        · have h3' : (match prun P (part f.type xs f.offset) with
            | some u => selfEq P m f.type u
            | none => false) = true := by simpa [hn] using h3
          cases hp : prun P (part f.type xs f.offset) with
          | none => rw [hp] at h3'; cases h3'
          | some u =>
            rw [hp] at h3'
            have := selfEq_ok (d := d) h3' (by omega)
            simp only [ne_eq, hn, not_false_eq_true, if_true, prunM_bind, hp, Option.bind_some, this, Bool.not_true, Bool.false_eq_true, if_false, prun_pure]
            exact ih'
    · rename_i n e xs ht
      split at h
      · rename_i i hi
        simp only [Op.equalIn, prunM_bind, prun_underlying ht, Option.bind_some, prun_sizeOf hi]
        simp only [Std.Legacy.Range.forIn_eq_forIn_range', Std.Legacy.Range.size, Nat.sub_zero, Nat.add_one_sub_one, Nat.div_one]
        rw [List.range_eq_range'] at h
        generalize List.range' 0 n = l at h
        clear ht
        induction l with
        | nil => simp [prun_pure]
        | cons j l ih =>
          simp only [List.all_cons, Bool.and_eq_true] at h
          obtain ⟨h3, h4⟩ := h
          have ih' := ih h4
          simp only [List.forIn_cons, prunM_bind] at ih' ⊢
          cases hp : prun P (part e xs (j * i.size)) with
          | none => rw [hp] at h3; cases h3
          | some u =>
            rw [hp] at h3
            have := selfEq_ok (d := d) h3 (by omega)
            simp only [Option.bind_some, this, Bool.not_true, Bool.false_eq_true, if_false, prun_pure]
            exact ih'
      · cases h
    · cases h

/-! ### what equals itself, asked -/

def eqRun (P : Program) (gl : Nat) (f : Fr) (o : Oper) (h : AH) : Option ((Value × AH) × List Prop) :=
  cond (o.op.operands.toList.all (operandOk gl))
    (match o.op with
      | .binOp .eql t x y _ => match f.eval x, f.eval y with
        | .agg ⟨xs⟩, .agg ⟨ys⟩ => cond (selfEq P 8 t (.agg ⟨xs⟩) && !P.eqGuardType P.depth t && flatL xs && flatL ys) (some ((.bool true, h), [xs = ys])) none
        | _, _ => none
      | _ => none) none
theorem eq_ok : ∀ P gl f o h r ps, isCall P f o = none → eqRun P gl f o h = some (r, ps) → All ps → evR P gl noF f o h = some r := by
  intro P gl f o h r ps _ e hp
  unfold eqRun at e
  cases hc : o.op.operands.toList.all (operandOk gl) with
  | false => rw [hc] at e; cases e
  | true =>
    rw [hc] at e
    simp only [cond_true] at e
    split at e
    · rename_i t x y ty ho
      split at e
      · rename_i xs ys hx hy
        cases hs : (selfEq P 8 t (.agg ⟨xs⟩) && !P.eqGuardType P.depth t && flatL xs && flatL ys) with
        | false => rw [hs] at e; cases e
        | true =>
          rw [hs] at e
          cases e
          simp only [Bool.and_eq_true, Bool.not_eq_true'] at hs
          obtain ⟨⟨⟨s1, s2⟩, s3⟩, s4⟩ := hs
          have h0 := hp _ (List.mem_singleton.2 rfl)
          subst h0
          have hsp : sp0 P gl f o h = none := by
            unfold sp0 checked special
            rw [hc, ho]; rfl
          unfold evR orEv
          rw [hsp]
          simp only []
          unfold aop
          rw [hc]
          simp only [cond_true]
          rw [ho]
          simp only []
          unfold plainA
          have hfl : flatRoute P f.eval o = some (.bool true) := by
            unfold flatRoute
            have hall : (o.op.operands.toList.all fun x => flatV (f.eval x)) = true := by
              rw [ho]
              simp only [Op.operands, hx, hy, List.all_cons, List.all_nil, Bool.and_true]
              show (flatL xs && flatL xs) = true
              rw [s3]; rfl
            rw [hall]
            have : prun P (execOp f.eval o) = some (.value (.bool true)) := by
              unfold execOp
              rw [ho]
              simp only [hx, hy, prunM_bind]
              have hg : prun P (eqGuard .eql t x y (.agg ⟨xs⟩) (.agg ⟨xs⟩)) = some () := by
                unfold eqGuard
                simp only [Bool.not_true, Bool.false_eq_true, if_false, prunM_bind, prun_program, Option.bind_some, s2, Bool.not_false, if_true]
                rfl
              have he : prun P (Go.binOp .eql t (.agg ⟨xs⟩) (.agg ⟨xs⟩)) = some (.bool true) := by
                unfold Go.binOp
                simp only [prunM_bind]
                unfold Op.equal
                rw [selfEq_ok (d := Op.maxDepth) s1 (by decide)]
                rfl
              rw [hg, Option.bind_some, he]
              rfl
            rw [this]
            rfl
          rw [hfl]
      · cases e
    · cases e
def eqRule : OpRule := ⟨eqRun, eq_ok⟩

/-- 'is not', of what equals itself. -/
def neRun (P : Program) (gl : Nat) (f : Fr) (o : Oper) (h : AH) : Option ((Value × AH) × List Prop) :=
  cond (o.op.operands.toList.all (operandOk gl))
    (match o.op with
      | .binOp .neq t x y _ => match f.eval x, f.eval y with
        | .agg ⟨xs⟩, .agg ⟨ys⟩ => cond (selfEq P 8 t (.agg ⟨xs⟩) && !P.eqGuardType P.depth t && flatL xs && flatL ys) (some ((.bool false, h), [xs = ys])) none
        | _, _ => none
      | _ => none) none
theorem ne_ok : ∀ P gl f o h r ps, isCall P f o = none → neRun P gl f o h = some (r, ps) → All ps → evR P gl noF f o h = some r := by
  intro P gl f o h r ps _ e hp
  unfold neRun at e
  cases hc : o.op.operands.toList.all (operandOk gl) with
  | false => rw [hc] at e; cases e
  | true =>
    rw [hc] at e
    simp only [cond_true] at e
    split at e
    · rename_i t x y ty ho
      split at e
      · rename_i xs ys hx hy
        cases hs : (selfEq P 8 t (.agg ⟨xs⟩) && !P.eqGuardType P.depth t && flatL xs && flatL ys) with
        | false => rw [hs] at e; cases e
        | true =>
          rw [hs] at e
          cases e
          simp only [Bool.and_eq_true, Bool.not_eq_true'] at hs
          obtain ⟨⟨⟨s1, s2⟩, s3⟩, s4⟩ := hs
          have h0 := hp _ (List.mem_singleton.2 rfl)
          subst h0
          have hsp : sp0 P gl f o h = none := by
            unfold sp0 checked special
            rw [hc, ho]; rfl
          unfold evR orEv
          rw [hsp]
          simp only []
          unfold aop
          rw [hc]
          simp only [cond_true]
          rw [ho]
          simp only []
          unfold plainA
          have hfl : flatRoute P f.eval o = some (.bool false) := by
            unfold flatRoute
            have hall : (o.op.operands.toList.all fun x => flatV (f.eval x)) = true := by
              rw [ho]
              simp only [Op.operands, hx, hy, List.all_cons, List.all_nil, Bool.and_true]
              show (flatL xs && flatL xs) = true
              rw [s3]; rfl
            rw [hall]
            have : prun P (execOp f.eval o) = some (.value (.bool false)) := by
              unfold execOp
              rw [ho]
              simp only [hx, hy, prunM_bind]
              have hg : prun P (eqGuard .neq t x y (.agg ⟨xs⟩) (.agg ⟨xs⟩)) = some () := by
                unfold eqGuard
                simp only [Bool.not_true, Bool.false_eq_true, if_false, prunM_bind, prun_program, Option.bind_some, s2, Bool.not_false, if_true]
                rfl
              have he : prun P (Go.binOp .neq t (.agg ⟨xs⟩) (.agg ⟨xs⟩)) = some (.bool false) := by
                unfold Go.binOp
                simp only [prunM_bind]
                unfold Op.equal
                rw [selfEq_ok (d := Op.maxDepth) s1 (by decide)]
                rfl
              rw [hg, Option.bind_some, he]
              rfl
            rw [this]
            rfl
          rw [hfl]
      · cases e
    · cases e
def neRule : OpRule := ⟨neRun, ne_ok⟩

/-! ### a row of bytes as a text -/

def isU8 : Value → Bool
  | .int .u8 _ => true
  | _ => false
def pushU8 (s : ByteArray) : Value → ByteArray
  | .int .u8 n => s.push (UInt8.ofNat n.toNat)
  | _ => s
def textOf (l : List Value) : ByteArray := l.foldl pushU8 .empty
theorem isU8_one {v : Value} (h : isU8 v = true) : oneCell v = true := by
  cases v <;> first | rfl | cases h
theorem all_one {l : List Value} (h : l.all isU8 = true) : l.all oneCell = true := by
  rw [List.all_eq_true] at h ⊢
  exact fun v hv => isU8_one (h v hv)
theorem arun_text {h : AH} {F : Value → ByteArray → Sem (ForInStep ByteArray)} (hF : ∀ n s, F (.int .u8 n) s = pure (.yield (s.push (UInt8.ofNat n.toNat)))) : ∀ (l : List Value) (s : ByteArray), l.all isU8 = true →
    arun P (forIn (m := Sem) l s F) h = some (l.foldl pushU8 s, h)
  | [], s, _ => rfl
  | v :: l, s, ha => by
    simp only [List.all_cons, Bool.and_eq_true] at ha
    obtain ⟨h1, h2⟩ := ha
    have ih := arun_text (h := h) hF l
    cases v with
    | int k n =>
      cases k <;> first
        | (cases h1; done)
        | (simp only [List.forIn_cons, hF, arunM_bind, arunM_pure, Option.bind_some]
           exact ih _ h2)
    | _ => cases h1
def strRun (P : Program) (gl : Nat) (f : Fr) (o : Oper) (h : AH) : Option ((Value × AH) × List Prop) :=
  cond (o.op.operands.toList.all (operandOk gl) && !flatAll f o)
    (match o.op with
      | .convert src dst x => match f.eval x, P.underlying src, P.underlying dst with
        | .slice (some a) n _, some (.slice e), some .string => match P.underlying e, a.spot, h.get a.block with
          | some (.int .u8), none, some (.cells c _ _ _ _ _) => some ((.string (textOf (takeL c a.off n)), h.rdBit a.block), [0 < n, a.off + n ≤ c.length, (takeL c a.off n).all isU8 = true])
          | _, _, _ => none
        | _, _, _ => none
      | _ => none) none
theorem str_ok : ∀ P gl f o h r ps, isCall P f o = none → strRun P gl f o h = some (r, ps) → All ps → evR P gl noF f o h = some r := by
  intro P gl f o h r ps _ e hp
  unfold strRun at e
  cases hc : (o.op.operands.toList.all (operandOk gl) && !flatAll f o) with
  | false => rw [hc] at e; cases e
  | true =>
    rw [hc] at e
    simp only [Bool.and_eq_true, Bool.not_eq_true', cond_true] at hc e
    split at e
    · rename_i src dst x ho
      split at e
      · rename_i a n cap el0 hx hs hd
        split at e
        · rename_i cs e0 lo hi ex st hel hsp hg
          cases e
          have b1 := hp _ (List.mem_cons_self ..)
          have b2 := hp _ (List.mem_cons_of_mem _ (List.mem_cons_self ..))
          have b3 := hp _ (List.mem_cons_of_mem _ (List.mem_cons_of_mem _ (List.mem_cons_self ..)))
          have hsp0 : sp0 P gl f o h = none := by
            unfold sp0 checked special
            rw [hc.1, ho]
            simp only [cond_true]
            have h1 : convA P src dst (f.eval x) h = none := by unfold convA; rw [hs, hd, hx]
            have h2 : markA P src dst (f.eval x) h = none := by unfold markA; rw [hs, hd, hx]
            rw [h1, h2]
          unfold evR orEv
          rw [hsp0]
          simp only []
          unfold aop
          rw [hc.1]
          simp only [cond_true]
          rw [ho]
          simp only []
          unfold plainA
          rw [flatRoute_none hc.2]
          have hgd : guardA P f.eval h o.op = some h := by
            rw [ho]
            unfold guardA
            simp only [hs, hd, hx, hel]
          rw [hgd]
          simp only []
          have hcells := arun_cellsFrom (P := P) hsp n 0 #[] h hg (by omega) (all_one b3)
          rw [if_neg (by omega)] at hcells
          have hrun : arun P (execOp f.eval o) h = some (.value (.string (textOf (takeL cs a.off n))), h.rdBit a.block) := by
            unfold execOp
            rw [ho]
            simp only []
            rw [arunM_bind]
            unfold convert
            rw [hx]
            simp only [arunM_bind, arun_underlying hs, arun_underlying hd, Option.bind_some, arun_underlying hel]
            unfold Conv.bytesToString loadCells
            simp only [arunM_bind, hcells, Option.bind_some]
            rw [← Array.forIn_toList, arun_text (h := h.rdBit a.block) (fun _ _ => rfl) _ _ (by simpa using b3)]
            rfl
          rw [hrun]
        · cases e
      · cases e
    · cases e
def strRule : OpRule := ⟨strRun, str_ok⟩
end
end Go.Ev
