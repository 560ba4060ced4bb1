/- A certified evaluator of calls, run by the kernel, with its rules for what is not known: what it tells holds of every program. -/
import Derived.Test.YthidmnghdoipiaaGreatDoorKit7
namespace Go.Ev
open Go Go.RowKit

section
variable {P : Program} {gl : Nat}
theorem evR_flat {f : Fr} {o : Oper} {h : AH} {v : Value} (hok : o.op.operands.toList.all (operandOk gl) = true) (hs : sp0 P gl f o h = none) (hnc : ∀ c, o.op ≠ .call c) (hns : ∀ cs b, o.op ≠ .select cs b) (hf : (o.op.operands.toList.all fun x => flatV (f.eval x)) = true)
    (hr : prun P (execOp f.eval o) = some (.value v)) (hv : flatV v = true) : evR P gl noF f o h = some (v, h) := by
  unfold evR orEv
  rw [hs]
  simp only []
  unfold aop
  rw [hok]
  simp only [cond_true]
  have hfl : flatRoute P f.eval o = some v := by
    unfold flatRoute
    rw [hf, hr]
    simp only [cond_true, hv]
  have hp : plainA P f o h = some (v, h) := by
    unfold plainA
    rw [hfl]
  cases ho : o.op with
  | call c => exact absurd ho (hnc c)
  | select cs b => exact absurd ho (hns cs b)
  | _ => exact hp

/-! ### two texts, one behind the other -/

def catRun (r : ByteArray) (_P : Program) (gl : Nat) (f : Fr) (o : Oper) (h : AH) : Option ((Value × AH) × List Prop) :=
  cond (o.op.operands.toList.all (operandOk gl))
    (match o.op with
      | .binOp .add _ x y _ => match f.eval x, f.eval y with
        | .string a, .string b => some ((.string r, h), [a.size + b.size ≤ 9223372036854775807, a ++ b = r])
        | _, _ => none
      | _ => none) none
theorem cat_ok (r : ByteArray) : ∀ P gl f o h x ps, isCall P f o = none → catRun r P gl f o h = some (x, ps) → All ps → evR P gl noF f o h = some x := by
  intro P gl f o h x ps _ e hp
  unfold catRun at e
  cases hc : o.op.operands.toList.all (operandOk gl) with
  | false => rw [hc] at e; cases e
  | true =>
    rw [hc] at e
    simp only [cond_true] at e
    split at e
    · rename_i t x y ty ho
      split at e
      · rename_i a b hx hy
        cases e
        have h0 := hp _ (List.mem_cons_self ..)
        have h1 := hp _ (List.mem_cons_of_mem _ (List.mem_singleton.2 rfl))
        refine evR_flat hc (by unfold sp0 checked special; rw [hc, ho]; rfl) (by rw [ho]; intro c h; cases h) (by rw [ho]; intro c b h; cases h) (by rw [ho]; simp [Op.operands, hx, hy, flatV]) ?_ rfl
        unfold execOp
        rw [ho]
        simp only [hx, hy, prunM_bind]
        have hg : prun P (eqGuard .add t x y (.string a) (.string b)) = some () := rfl
        have hb : prun P (Go.binOp .add t (.string a) (.string b)) = some (.string r) := by
          unfold Go.binOp Op.stringOp
          simp only []
          have : ¬ (((a.size + b.size : Nat) : Int) > IntKind.i64.max) := by
            have e2 : IntKind.i64.max = 9223372036854775807 := by decide
            rw [e2]; omega
          rw [if_neg this, h1]
          rfl
        rw [hg, Option.bind_some, hb]
        rfl
      · cases e
    · cases e
def catRule (r : ByteArray) : OpRule := ⟨catRun r, cat_ok r⟩

/-! ### a part of a text -/

def optI : Option Value → Option (Option Int)
  | none => some none
  | some (.int _ i) => some (some i)
  | _ => none
def cutRun (r : ByteArray) (P : Program) (gl : Nat) (f : Fr) (o : Oper) (h : AH) : Option ((Value × AH) × List Prop) :=
  cond (o.op.operands.toList.all (operandOk gl))
    (match o.op with
      | .slice t x lo hi none => match P.underlying t, f.eval x, optI (lo.map f.eval), optI (hi.map f.eval) with
        | some .string, .string s, some l, some m => some ((.string r, h),
            [m.elim True (fun m => 0 ≤ m ∧ m ≤ (s.size : Int)), l.elim True (fun l => 0 ≤ l ∧ l ≤ ((m.elim s.size Int.toNat : Nat) : Int)), s.extract (l.elim 0 Int.toNat) (m.elim s.size Int.toNat) = r])
        | _, _, _, _ => none
      | _ => none) none
theorem prun_bound {x : Value} {k : IntKind} {i : Int} (hx : x = .int k i) {y : Nat} (hb : 0 ≤ i ∧ i ≤ (y : Int)) (code : BoundsCode) : prun P (Instr.sliceBound x y code) = some i.toNat := by
  unfold Instr.sliceBound
  rw [hx]
  simp only [asIntOf, prunM_bind, prun_pure, Option.bind_some, if_pos hb]
theorem optI_some {v : Option Value} {i : Int} (h : optI v = some (some i)) : ∃ k, v = some (.int k i) := by
  unfold optI at h
  split at h
  · cases h
  · cases h; exact ⟨_, rfl⟩
  · cases h
theorem optI_none {v : Option Value} (h : optI v = some none) : v = none := by
  unfold optI at h
  split at h
  · rfl
  · cases h
  · cases h
theorem cut_ok (r : ByteArray) : ∀ P gl f o h x ps, isCall P f o = none → cutRun r P gl f o h = some (x, ps) → All ps → evR P gl noF f o h = some x := by
  intro P gl f o h x ps _ e hp
  unfold cutRun at e
  cases hc : o.op.operands.toList.all (operandOk gl) with
  | false => rw [hc] at e; cases e
  | true =>
    rw [hc] at e
    simp only [cond_true] at e
    split at e
    · rename_i t x lo hi ho
      split at e
      · rename_i s l m ht hx hl hm
        cases e
        have h0 := hp _ (List.mem_cons_self ..)
        have h1 := hp _ (List.mem_cons_of_mem _ (List.mem_cons_self ..))
        have h2 := hp _ (List.mem_cons_of_mem _ (List.mem_cons_of_mem _ (List.mem_singleton.2 rfl)))
        clear hp
        have hfl : ∀ {v : Option Operand} {j : Option Int}, optI (v.map f.eval) = some j → (v.toList.all fun x => flatV (f.eval x)) = true := by
          intro v j hj
          cases v with
          | none => rfl
          | some v =>
            cases j with
            | none => have := optI_none hj; cases this
            | some j =>
              obtain ⟨k, hk⟩ := optI_some hj
              have hk' : f.eval v = .int k j := by simpa using hk
              simp [hk', flatV]
        refine evR_flat hc (by unfold sp0 checked special; rw [hc, ho]; rfl) (by rw [ho]; intro c h; cases h) (by rw [ho]; intro c b h; cases h) ?_ ?_ rfl
        · rw [ho]
          have a1 := hfl hl
          have a2 := hfl hm
          cases lo <;> cases hi <;> simp_all [Op.operands, flatV]
        · unfold execOp
          rw [ho]
          simp only []
          unfold Instr.sliceAt
          rw [hx]
          simp only [prunM_bind, prun_underlying ht, Option.bind_some]
          unfold Instr.slice Instr.sliceBounds
          simp only [prunM_bind, prun_underlying ht, Option.bind_some, Option.map_none, Option.isSome_none, Bool.false_eq_true, if_false]
          cases m with
          | none =>
            have hm' := optI_none hm
            cases l with
            | none =>
              have hl' := optI_none hl
              simp only [hm', hl', prun_pure, prunM_bind, Option.bind_some]
              have h2' : s.extract 0 s.size = r := h2
              rw [h2']
            | some li =>
              obtain ⟨kl, hl'⟩ := optI_some hl
              simp only [hm', hl', prun_pure, prunM_bind, Option.bind_some]
              rw [prun_bound rfl (show 0 ≤ li ∧ li ≤ ((s.size : Nat) : Int) from h1)]
              simp only [Option.bind_some]
              have h2' : s.extract li.toNat s.size = r := h2
              rw [h2']
          | some mi =>
            obtain ⟨km, hm'⟩ := optI_some hm
            have h0' : 0 ≤ mi ∧ mi ≤ (s.size : Int) := h0
            cases l with
            | none =>
              have hl' := optI_none hl
              simp only [hm', hl', prun_pure, prunM_bind, Option.bind_some]
              rw [prun_bound rfl h0']
              simp only [Option.bind_some]
              have h2' : s.extract 0 mi.toNat = r := h2
              rw [h2']
            | some li =>
              obtain ⟨kl, hl'⟩ := optI_some hl
              simp only [hm', hl', prun_pure, prunM_bind, Option.bind_some]
              rw [prun_bound rfl h0']
              simp only [Option.bind_some]
              rw [prun_bound rfl (show 0 ≤ li ∧ li ≤ ((mi.toNat : Nat) : Int) from h1)]
              simp only [Option.bind_some]
              have h2' : s.extract li.toNat mi.toNat = r := h2
              rw [h2']
      · cases e
    · cases e
def cutRule (r : ByteArray) : OpRule := ⟨cutRun r, cut_ok r⟩

/-! ### a part of a row whose length is told -/

def slNRun (m : Nat) (P : Program) (gl : Nat) (f : Fr) (o : Oper) (h : AH) : Option ((Value × AH) × List Prop) :=
  match slRun P gl f o h with
  | some ((.slice a n c, h1), ps) => some ((.slice a m c, h1), (n = m) :: ps)
  | _ => none
theorem slN_ok (m : Nat) : ∀ P gl f o h x ps, isCall P f o = none → slNRun m P gl f o h = some (x, ps) → All ps → evR P gl noF f o h = some x := by
  intro P gl f o h x ps hc e hp
  unfold slNRun at e
  split at e
  · rename_i a n c h1 qs hs
    cases e
    have h0 := hp _ (List.mem_cons_self ..)
    subst h0
    exact sl_ok P gl f o h _ _ hc hs fun p hq => hp p (List.mem_cons_of_mem _ hq)
  · cases e
def slNRule (m : Nat) : OpRule := ⟨slNRun m, slN_ok m⟩
end
end Go.Ev
namespace Go.Ev
open Go Go.RowKit

section
variable {P : Program} {gl : Nat}
def allO : List (Option Bool) → Option Bool
  | [] => some true
  | x :: l => match x, allO l with
    | some a, some b => some (a && b)
    | _, _ => none
def both (f : Value → Value → Option Bool) : Option Value → Option Value → Option Bool
  | some u, some v => f u v
  | _, _ => none
/-- Whether two values are alike, where that is plain. -/
def twoEq (P : Program) : Nat → TypeId → Value → Value → Option Bool
  | 0, _, _, _ => none
  | d + 1, t, x, y => match P.underlying t, x, y with
    | some .bool, .bool a, .bool b => some (a == b)
    | some (.int _), .int k a, .int l b => if k = l then some (a == b) else none
    | some .string, .string a, .string b => some (a == b)
    | some (.struct fs), .agg xs, .agg ys => if P.stoodInHeld t then none else
      allO (fs.toList.map fun f => if f.name = "_" then some true else both (twoEq P d f.type) (prun P (part f.type xs f.offset)) (prun P (part f.type ys f.offset)))
    | some (.array n e), .agg xs, .agg ys => match P.info? e with
      | some i => allO ((List.range n).map fun j => both (twoEq P d e) (prun P (part e xs (j * i.size))) (prun P (part e ys (j * i.size))))
      | none => none
    | _, _, _ => none
theorem both_some {f : Value → Value → Option Bool} {a b : Option Value} {r : Bool} (h : both f a b = some r) : ∃ u v, a = some u ∧ b = some v ∧ f u v = some r := by
  cases a <;> cases b <;> first | (cases h; done) | exact ⟨_, _, rfl, rfl, h⟩
theorem allO_cons {x : Option Bool} {l : List (Option Bool)} {r : Bool} (h : allO (x :: l) = some r) : ∃ a b, x = some a ∧ allO l = some b ∧ r = (a && b) := by
  unfold allO at h
  split at h
  · rename_i a b h2
    cases h
    exact ⟨a, b, rfl, h2, rfl⟩
  · cases h
theorem twoEq_ok : ∀ {m : Nat} {t : TypeId} {x y : Value} {d : Nat} {r : Bool}, twoEq P m t x y = some r → m ≤ d → prun P (Op.equalIn d t x y) = some r
  | 0, _, _, _, _, _, h, _ => by cases h
  | m + 1, t, x, y, d, r, h, hd => by
    obtain ⟨d, rfl⟩ : ∃ d', d = d' + 1 := ⟨d - 1, by omega⟩
    unfold twoEq at h
    split at h
    · rename_i a b ht
      cases h
      simp only [Op.equalIn, prunM_bind, prun_underlying ht, Option.bind_some, prun_pure]
    · rename_i k0 k a l b ht
      split at h
      · rename_i hk
        cases h
        simp only [Op.equalIn, prunM_bind, prun_underlying ht, Option.bind_some, if_pos hk, prun_pure]
      · cases h
    · rename_i a b ht
      cases h
      simp only [Op.equalIn, prunM_bind, prun_underlying ht, Option.bind_some, prun_pure]
    · rename_i fs xs ys ht
      split at h
      · cases h
      · rename_i h1
        simp only [Bool.not_eq_true] at h1
        simp only [Op.equalIn, prunM_bind, prun_underlying ht, Option.bind_some, prun_program, h1, Bool.false_eq_true, if_false]
        rw [← Array.forIn_toList]
        generalize fs.toList = l at h
        clear ht
        induction l generalizing r with
        | nil => cases h; simp [prun_pure]
        | cons f l ih =>
          rw [List.map_cons] at h
          obtain ⟨a, b, h2, h3, rfl⟩ := allO_cons h
          have ih' := ih b h3
          simp only [List.forIn_cons, prunM_bind] at ih' ⊢
          by_cases hn : f.name = "_"
          · rw [if_pos hn] at h2
            cases h2
            simp only [hn, ne_eq, not_true_eq_false, if_false, prun_pure, Option.bind_some]
            exact ih'
          · rw [if_neg hn] at h2
            obtain ⟨u, v, hu, hv, h4⟩ := both_some h2
            have h5 := twoEq_ok (d := d) h4 (by omega)
            simp only [ne_eq, hn, not_false_eq_true, if_true, prunM_bind, hu, hv, Option.bind_some, h5]
            cases a with
            | true =>
              simp only [Bool.not_true, Bool.false_eq_true, if_false, prun_pure, Option.bind_some]
              exact ih'
            | false =>
              simp only [Bool.not_false, if_true, prun_pure, Option.bind_some]
              rfl
    · rename_i n e xs ys ht
      split at h
      · rename_i i hi
        simp only [Op.equalIn, prunM_bind, prun_underlying ht, Option.bind_some, prun_sizeOf hi]
        simp only [Std.Legacy.Range.forIn_eq_forIn_range', Std.Legacy.Range.size, Nat.sub_zero, Nat.add_one_sub_one, Nat.div_one]
        rw [List.range_eq_range'] at h
        generalize List.range' 0 n = l at h
        clear ht
        induction l generalizing r with
        | nil => cases h; simp [prun_pure]
        | cons j l ih =>
          rw [List.map_cons] at h
          obtain ⟨a, b, h2, h3, rfl⟩ := allO_cons h
          have ih' := ih b h3
          simp only [List.forIn_cons, prunM_bind] at ih' ⊢
          obtain ⟨u, v, hu, hv, h4⟩ := both_some h2
          have h5 := twoEq_ok (d := d) h4 (by omega)
          simp only [hu, hv, Option.bind_some, h5]
          cases a with
          | true =>
            simp only [Bool.not_true, Bool.false_eq_true, if_false, prun_pure, Option.bind_some]
            exact ih'
          | false =>
            simp only [Bool.not_false, if_true, prun_pure, Option.bind_some]
            rfl
      · cases h
    · cases h
def cmpRun (op : BinOp) (r : Bool) (P : Program) (gl : Nat) (f : Fr) (o : Oper) (h : AH) : Option ((Value × AH) × List Prop) :=
  cond (o.op.operands.toList.all (operandOk gl))
    (match o.op with
      | .binOp b t x y _ => match f.eval x, f.eval y with
        | .agg ⟨xs⟩, .agg ⟨ys⟩ => cond (decide (b = op) && !P.eqGuardType P.depth t && flatL xs && flatL ys) (some ((.bool r, h), [(twoEq P 8 t (.agg ⟨xs⟩) (.agg ⟨ys⟩)) = some (bif decide (op = .neq) then !r else r)])) none
        | _, _ => none
      | _ => none) none
theorem cmp_ok (op : BinOp) (hop : op = .eql ∨ op = .neq) (r : Bool) : ∀ P gl f o h x ps, isCall P f o = none → cmpRun op r P gl f o h = some (x, ps) → All ps → evR P gl noF f o h = some x := by
  intro P gl f o h z ps _ e hp
  unfold cmpRun at e
  cases hc : o.op.operands.toList.all (operandOk gl) with
  | false => rw [hc] at e; cases e
  | true =>
    rw [hc] at e
    simp only [cond_true] at e
    split at e
    · rename_i b t x y ty ho
      split at e
      · rename_i xs ys hx hy
        cases hs : (decide (b = op) && !P.eqGuardType P.depth t && flatL xs && flatL ys) with
        | false => rw [hs] at e; cases e
        | true =>
          rw [hs] at e
          cases e
          simp only [Bool.and_eq_true, Bool.not_eq_true', decide_eq_true_eq] at hs
          obtain ⟨⟨⟨s1, s2⟩, s3⟩, s4⟩ := hs
          subst s1
          have h0 := hp _ (List.mem_singleton.2 rfl)
          refine evR_flat hc (by unfold sp0 checked special; rw [hc, ho]; rfl) (by rw [ho]; intro c h; cases h) (by rw [ho]; intro c b h; cases h) ?_ ?_ rfl
          · rw [ho]
            simp only [Op.operands, hx, hy, List.all_cons, List.all_nil, Bool.and_true]
            show (flatL xs && flatL ys) = true
            rw [s3, s4]; rfl
          · unfold execOp
            rw [ho]
            simp only [hx, hy, prunM_bind]
            have hg : prun P (eqGuard b t x y (.agg ⟨xs⟩) (.agg ⟨ys⟩)) = some () := by
              unfold eqGuard
              rcases hop with rfl | rfl <;>
              · simp only [Bool.not_true, Bool.false_eq_true, if_false, prunM_bind, prun_program, Option.bind_some, s2, Bool.not_false, if_true]
                rfl
            have he : prun P (Go.binOp b t (.agg ⟨xs⟩) (.agg ⟨ys⟩)) = some (.bool r) := by
              have h1 := twoEq_ok (d := Op.maxDepth) h0 (by decide)
              unfold Go.binOp
              rcases hop with rfl | rfl
              · simp only [prunM_bind]
                unfold Op.equal
                rw [h1]
                rfl
              · simp only [prunM_bind]
                unfold Op.equal
                rw [h1]
                cases r <;> rfl
            rw [hg, Option.bind_some, he]
            rfl
      · cases e
    · cases e
/-- Whether two structs differ: told beforehand. -/
def diffRule (r : Bool) : OpRule := ⟨cmpRun .neq r, cmp_ok .neq (.inr rfl) r⟩
def likeRule (r : Bool) : OpRule := ⟨cmpRun .eql r, cmp_ok .eql (.inl rfl) r⟩
end
end Go.Ev
