/- What equals itself; a row as a text. Holds for every program. -/
import Derived.Test.YtnfijnioclcnmaaDoorSxMore
namespace Go.Ev
open Go Go.RowKit

section
variable {P : Program} {gl : Nat}
theorem prun_bind {α β : Type} (s : Sem α) (f : α → Sem β) : prun P (s.bind f) = (prun P s).bind fun a => prun P (f a) := by
  induction s with
  | pure a => rfl
  | program k ih => simp only [Sem.bind, prun]; exact ih P
  | mark m k ih => simp only [Sem.bind, prun]; exact ih
  | choose q k ih =>
    simp only [Sem.bind, prun]
    cases q.forced with
    | false => rfl
    | true => exact ih 0
  | _ => rfl
theorem prunM_bind {α β : Type} (s : Sem α) (f : α → Sem β) : prun P (s >>= f) = (prun P s).bind fun a => prun P (f a) := prun_bind s f
theorem prun_pure {α : Type} (a : α) : prun P (pure a : Sem α) = some a := rfl
theorem prun_program : prun P program = some P := rfl
theorem prun_underlying {t : TypeId} {d : TypeDesc} (ht : P.underlying t = some d) : prun P (underlying t) = some d := by
  unfold underlying
  rw [prunM_bind]
  simp only [prun_program, Option.bind_some, ht]
  rfl
theorem prun_sizeOf {t : TypeId} {i : TypeInfo} (ht : P.info? t = some i) : prun P (sizeOf t) = some i.size := by
  unfold sizeOf typeInfo
  rw [prunM_bind, prunM_bind]
  simp only [prun_program, Option.bind_some, ht]
  rfl
/-- Values that equal themselves, whatever their numbers. -/
def selfEq (P : Program) : Nat → TypeId → Value → Bool
  | 0, _, _ => false
  | d + 1, t, v => match P.underlying t, v with
    | some .bool, .bool _ => true
    | some (.int _), .int _ _ => true
    | some .string, .string _ => true
    | some (.struct fs), .agg xs => !P.stoodInHeld t && fs.toList.all fun f => f.name == "_" || (match prun P (part f.type xs f.offset) with
      | some u => selfEq P d f.type u
      | none => false)
    | some (.array n e), .agg xs => match P.info? e with
      | some i => (List.range n).all fun j => match prun P (part e xs (j * i.size)) with
        | some u => selfEq P d e u
        | none => false
      | none => false
    | _, _ => false
theorem selfEq_ok : ∀ {m : Nat} {t : TypeId} {v : Value} {d : Nat}, selfEq P m t v = true → m ≤ d → prun P (Op.equalIn d t v v) = some true
  | 0, _, _, _, h, _ => by cases h
  | m + 1, t, v, d, h, hd => by
    obtain ⟨d, rfl⟩ : ∃ d', d = d' + 1 := ⟨d - 1, by omega⟩
    unfold selfEq at h
    split at h
    · rename_i b ht
      simp only [Op.equalIn, prunM_bind, prun_underlying ht, Option.bind_some, prun_pure, beq_self_eq_true]
    · rename_i k n x ht
      simp only [Op.equalIn, prunM_bind, prun_underlying ht, Option.bind_some, if_true, prun_pure, beq_self_eq_true]
    · rename_i s ht
      simp only [Op.equalIn, prunM_bind, prun_underlying ht, Option.bind_some, prun_pure]
      obtain ⟨x⟩ := s
      show some (x == x) = some true
      simp
    · rename_i fs xs ht
      simp only [Bool.and_eq_true, Bool.not_eq_true'] at h
      obtain ⟨h1, h2⟩ := h
      simp only [Op.equalIn, prunM_bind, prun_underlying ht, Option.bind_some, prun_program, h1, Bool.false_eq_true, if_false]
      rw [← Array.forIn_toList]
      generalize fs.toList = l at h2
      clear ht
      induction l with
      | nil => simp [prun_pure]
      | cons f l ih =>
        simp only [List.all_cons, Bool.and_eq_true] at h2
        obtain ⟨h3, h4⟩ := h2
        have ih' := ih h4
        simp only [List.forIn_cons, prunM_bind] at ih' ⊢
        by_cases hn : f.name = "_"
        · simp only [hn, ne_eq, not_true_eq_false, if_false, prun_pure, Option.bind_some]
          exact ih'
        · have h3' : (match prun P (part f.type xs f.offset) with
            | some u => selfEq P m f.type u
            | none => false) = true := by simpa [hn] using h3
          cases hp : prun P (part f.type xs f.offset) with
          | none => rw [hp] at h3'; cases h3'
          | some u =>
            rw [hp] at h3'
            have := selfEq_ok (d := d) h3' (by omega)
            simp only [ne_eq, hn, not_false_eq_true, if_true, prunM_bind, hp, Option.bind_some, this, Bool.not_true, Bool.false_eq_true, if_false, prun_pure]
            exact ih'
    · rename_i n e xs ht
      split at h
      · rename_i i hi
        simp only [Op.equalIn, prunM_bind, prun_underlying ht, Option.bind_some, prun_sizeOf hi]
        simp only [Std.Legacy.Range.forIn_eq_forIn_range', Std.Legacy.Range.size, Nat.sub_zero, Nat.add_one_sub_one, Nat.div_one]
        rw [List.range_eq_range'] at h
        generalize List.range' 0 n = l at h
        clear ht
        induction l with
        | nil => simp [prun_pure]
        | cons j l ih =>
          simp only [List.all_cons, Bool.and_eq_true] at h
          obtain ⟨h3, h4⟩ := h
          have ih' := ih h4
          simp only [List.forIn_cons, prunM_bind] at ih' ⊢
          cases hp : prun P (part e xs (j * i.size)) with
          | none => rw [hp] at h3; cases h3
          | some u =>
            rw [hp] at h3
            have := selfEq_ok (d := d) h3 (by omega)
            simp only [hp, Option.bind_some, this, Bool.not_true, Bool.false_eq_true, if_false, prun_pure]
            exact ih'
      · cases h
    · cases h

/-! ### what equals itself, asked -/

def eqRun (P : Program) (gl : Nat) (f : Fr) (o : Oper) (h : AH) : Option ((Value × AH) × List Prop) :=
  cond (o.op.operands.toList.all (operandOk gl))
    (match o.op with
      | .binOp .eql t x y _ => match f.eval x, f.eval y with
        | .agg ⟨xs⟩, .agg ⟨ys⟩ => cond (selfEq P 8 t (.agg ⟨xs⟩) && !P.eqGuardType P.depth t && flatL xs && flatL ys) (some ((.bool true, h), [xs = ys])) none
        | _, _ => none
      | _ => none) none
theorem eq_ok : ∀ P gl f o h r ps, isCall P f o = none → eqRun P gl f o h = some (r, ps) → All ps → evR P gl noF f o h = some r := by
  intro P gl f o h r ps _ e hp
  unfold eqRun at e
  cases hc : o.op.operands.toList.all (operandOk gl) with
  | false => rw [hc] at e; cases e
  | true =>
    rw [hc] at e
    simp only [cond_true] at e
    split at e
    · rename_i t x y ty ho
      split at e
      · rename_i xs ys hx hy
        cases hs : (selfEq P 8 t (.agg ⟨xs⟩) && !P.eqGuardType P.depth t && flatL xs && flatL ys) with
        | false => rw [hs] at e; cases e
        | true =>
          rw [hs] at e
          cases e
          simp only [Bool.and_eq_true, Bool.not_eq_true'] at hs
          obtain ⟨⟨⟨s1, s2⟩, s3⟩, s4⟩ := hs
          have h0 := hp _ (List.mem_singleton.2 rfl)
          subst h0
          have hsp : sp0 P gl f o h = none := by
            unfold sp0 checked special
            rw [hc, ho]; rfl
          unfold evR orEv
          rw [hsp]
          simp only []
          unfold aop
          rw [hc]
          simp only [cond_true]
          rw [ho]
          simp only []
          unfold plainA
          have hfl : flatRoute P f.eval o = some (.bool true) := by
            unfold flatRoute
            have hall : (o.op.operands.toList.all fun x => flatV (f.eval x)) = true := by
              rw [ho]
              simp only [Op.operands, hx, hy, List.all_cons, List.all_nil, Bool.and_true]
              show (flatL xs && flatL xs) = true
              rw [s3]; rfl
            rw [hall]
            have : prun P (execOp f.eval o) = some (.value (.bool true)) := by
              unfold execOp
              rw [ho]
              simp only [hx, hy, prunM_bind]
              have hg : prun P (eqGuard .eql t x y (.agg ⟨xs⟩) (.agg ⟨xs⟩)) = some () := by
                unfold eqGuard
                simp only [Bool.not_true, Bool.false_eq_true, if_false, prunM_bind, prun_program, Option.bind_some, s2, Bool.not_false, if_true]
                rfl
              have he : prun P (Go.binOp .eql t (.agg ⟨xs⟩) (.agg ⟨xs⟩)) = some (.bool true) := by
                unfold Go.binOp
                simp only [prunM_bind]
                unfold Op.equal
                rw [selfEq_ok (d := Op.maxDepth) s1 (by decide)]
                rfl
              rw [hg, Option.bind_some, he]
              rfl
            rw [this]
            rfl
          rw [hfl]
      · cases e
    · cases e
def eqRule : OpRule := ⟨eqRun, eq_ok⟩

/-! ### a row of bytes as a text -/

def isU8 : Value → Bool
  | .int .u8 _ => true
  | _ => false
def pushU8 (s : ByteArray) : Value → ByteArray
  | .int .u8 n => s.push (UInt8.ofNat n.toNat)
  | _ => s
def textOf (l : List Value) : ByteArray := l.foldl pushU8 .empty
theorem isU8_one {v : Value} (h : isU8 v = true) : oneCell v = true := by
  cases v <;> first | rfl | cases h
theorem all_one {l : List Value} (h : l.all isU8 = true) : l.all oneCell = true := by
  rw [List.all_eq_true] at h ⊢
  exact fun v hv => isU8_one (h v hv)
theorem arun_text {h : AH} {F : Value → ByteArray → Sem (ForInStep ByteArray)} (hF : ∀ n s, F (.int .u8 n) s = pure (.yield (s.push (UInt8.ofNat n.toNat)))) : ∀ (l : List Value) (s : ByteArray), l.all isU8 = true →
    arun P (forIn (m := Sem) l s F) h = some (l.foldl pushU8 s, h)
  | [], s, _ => rfl
  | v :: l, s, ha => by
    simp only [List.all_cons, Bool.and_eq_true] at ha
    obtain ⟨h1, h2⟩ := ha
    have ih := arun_text (h := h) hF l
    cases v with
    | int k n =>
      cases k <;> first
        | (cases h1; done)
        | (simp only [List.forIn_cons, hF, arunM_bind, arunM_pure, Option.bind_some]
           exact ih _ h2)
    | _ => cases h1
def strRun (P : Program) (gl : Nat) (f : Fr) (o : Oper) (h : AH) : Option ((Value × AH) × List Prop) :=
  cond (o.op.operands.toList.all (operandOk gl) && !flatAll f o)
    (match o.op with
      | .convert src dst x => match f.eval x, P.underlying src, P.underlying dst with
        | .slice (some a) n _, some (.slice e), some .string => match P.underlying e, a.spot, h.get a.block with
          | some (.int .u8), none, some (.cells c _ _ _ _ _) => some ((.string (textOf (takeL c a.off n)), h.rdBit a.block), [0 < n, a.off + n ≤ c.length, (takeL c a.off n).all isU8 = true])
          | _, _, _ => none
        | _, _, _ => none
      | _ => none) none
theorem str_ok : ∀ P gl f o h r ps, isCall P f o = none → strRun P gl f o h = some (r, ps) → All ps → evR P gl noF f o h = some r := by
  intro P gl f o h r ps _ e hp
  unfold strRun at e
  cases hc : (o.op.operands.toList.all (operandOk gl) && !flatAll f o) with
  | false => rw [hc] at e; cases e
  | true =>
    rw [hc] at e
    simp only [Bool.and_eq_true, Bool.not_eq_true', cond_true] at hc e
    split at e
    · rename_i src dst x ho
      split at e
      · rename_i a n cap el0 hx hs hd
        split at e
        · rename_i cs e0 lo hi ex st hel hsp hg
          cases e
          have b1 := hp _ (List.mem_cons_self ..)
          have b2 := hp _ (List.mem_cons_of_mem _ (List.mem_cons_self ..))
          have b3 := hp _ (List.mem_cons_of_mem _ (List.mem_cons_of_mem _ (List.mem_cons_self ..)))
          have hsp0 : sp0 P gl f o h = none := by
            unfold sp0 checked special
            rw [hc.1, ho]
            simp only [cond_true]
            have h1 : convA P src dst (f.eval x) h = none := by unfold convA; rw [hs, hd, hx]
            have h2 : markA P src dst (f.eval x) h = none := by unfold markA; rw [hs, hd, hx]
            rw [h1, h2]
          unfold evR orEv
          rw [hsp0]
          simp only []
          unfold aop
          rw [hc.1]
          simp only [cond_true]
          rw [ho]
          simp only []
          unfold plainA
          rw [flatRoute_none hc.2]
          have hgd : guardA P f.eval h o.op = some h := by
            rw [ho]
            unfold guardA
            simp only [hs, hd, hx, hel]
          rw [hgd]
          simp only []
          have hcells := arun_cellsFrom (P := P) hsp n 0 #[] h hg (by omega) (all_one b3)
          rw [if_neg (by omega)] at hcells
          have hrun : arun P (execOp f.eval o) h = some (.value (.string (textOf (takeL cs a.off n))), h.rdBit a.block) := by
            unfold execOp
            rw [ho]
            simp only []
            rw [arunM_bind]
            unfold convert
            rw [hx]
            simp only [arunM_bind, arun_underlying hs, arun_underlying hd, Option.bind_some, arun_underlying hel]
            unfold Conv.bytesToString loadCells
            simp only [arunM_bind, hcells, Option.bind_some]
            rw [← Array.forIn_toList, arun_text (h := h.rdBit a.block) (fun _ _ => rfl) _ _ (by simpa using b3)]
            rfl
          rw [hrun]
        · cases e
      · cases e
    · cases e
def strRule : OpRule := ⟨strRun, str_ok⟩
end
end Go.Ev
