/- Rules for operations over rows and numbers that are not known. Holds for every program. -/
import Derived.Test.YtnfijnioclcnmaaDoorSxPure
namespace Go.Ev
open Go Go.RowKit

section
variable {P : Program} {gl : Nat}
theorem arunM_bind {α β : Type} (s : Sem α) (f : α → Sem β) (h : AH) : arun P (s >>= f) h = (arun P s h).bind fun x => arun P (f x.1) x.2 := arun_bind P s f h
theorem arunM_pure {α : Type} (a : α) (h : AH) : arun P (pure a : Sem α) h = some (a, h) := rfl
theorem arun_underlying {t : TypeId} {d : TypeDesc} (ht : P.underlying t = some d) (h : AH) : arun P (underlying t) h = some (d, h) := by
  unfold underlying
  rw [arunM_bind]
  simp only [program, arun, Option.bind_some, ht]
  rfl
theorem arun_sizeOf {t : TypeId} {i : TypeInfo} (ht : P.info? t = some i) (h : AH) : arun P (sizeOf t) h = some (i.size, h) := by
  unfold sizeOf typeInfo
  rw [arunM_bind, arunM_bind]
  simp only [program, arun, Option.bind_some, ht]
  rfl
theorem addr_add {a : Addr} (h : a.spot = none) (n : Nat) : a.add n = ⟨a.block, a.off + n, none⟩ := by
  unfold Addr.add
  split
  · rename_i hn; subst hn; cases a; simp_all
  · rfl
def flatAll (f : Fr) (o : Oper) : Bool := o.op.operands.toList.all fun x => flatV (f.eval x)
theorem flatRoute_none {f : Fr} {o : Oper} (h : flatAll f o = false) : flatRoute P f.eval o = none := by
  unfold flatRoute
  unfold flatAll at h
  rw [h]; rfl
def rowOp : Op → Bool
  | .load .. | .store .. | .indexAddr .. | .slice .. => true
  | _ => false
theorem evR_plain {f : Fr} {o : Oper} {h h0 h1 : AH} {v : Value} (hop : rowOp o.op = true) (hok : o.op.operands.toList.all (operandOk gl) = true) (hnf : flatAll f o = false) (hg : guardA P f.eval h o.op = some h0)
    (hr : arun P (execOp f.eval o) h0 = some (.value v, h1)) : evR P gl noF f o h = some (v, h1) := by
  have hs : sp0 P gl f o h = none := by
    unfold sp0 checked special
    rw [hok]
    cases ho : o.op <;> rw [ho] at hop <;> simp_all [rowOp]
  unfold evR orEv
  rw [hs]
  simp only []
  unfold aop
  rw [hok]
  simp only [cond_true]
  have hp : plainA P f o h = some (v, h1) := by
    unfold plainA
    rw [flatRoute_none hnf, hg]
    simp only []
    rw [hr]
  cases ho : o.op <;> rw [ho] at hop <;> simp_all [rowOp]
theorem evR_skip {f : Fr} {o : Oper} {h h0 h1 : AH} (hop : rowOp o.op = true) (hok : o.op.operands.toList.all (operandOk gl) = true) (hnf : flatAll f o = false) (hg : guardA P f.eval h o.op = some h0)
    (hr : arun P (execOp f.eval o) h0 = some (.skip, h1)) : evR P gl noF f o h = some (undef, h1) := by
  have hs : sp0 P gl f o h = none := by
    unfold sp0 checked special
    rw [hok]
    cases ho : o.op <;> rw [ho] at hop <;> simp_all [rowOp]
  unfold evR orEv
  rw [hs]
  simp only []
  unfold aop
  rw [hok]
  simp only [cond_true]
  have hp : plainA P f o h = some (undef, h1) := by
    unfold plainA
    rw [flatRoute_none hnf, hg]
    simp only []
    rw [hr]
  cases ho : o.op <;> rw [ho] at hop <;> simp_all [rowOp]

/-! ### a place in a row -/

def ixRun (P : Program) (gl : Nat) (f : Fr) (o : Oper) (h : AH) : Option ((Value × AH) × List Prop) :=
  cond (o.op.operands.toList.all (operandOk gl) && !flatAll f o)
    (match o.op with
      | .indexAddr t x ix => match P.underlying t, f.eval x, f.eval ix with
        | some (.slice elem), .slice (some a) n _, .int _ i => match P.info? elem, a.spot with
          | some inf, none => some ((.pointer (some ⟨a.block, a.off + i.toNat * inf.size, none⟩), h), [0 ≤ i ∧ i < (n : Int)])
          | _, _ => none
        | _, _, _ => none
      | _ => none) none
theorem ix_ok : ∀ P gl f o h r ps, isCall P f o = none → ixRun P gl f o h = some (r, ps) → All ps → evR P gl noF f o h = some r := by
  intro P gl f o h r ps _ e hp
  unfold ixRun at e
  cases hc : (o.op.operands.toList.all (operandOk gl) && !flatAll f o) with
  | false => rw [hc] at e; cases e
  | true =>
    rw [hc] at e
    simp only [Bool.and_eq_true, Bool.not_eq_true', cond_true] at hc e
    split at e
    · rename_i t x ix ho
      split at e
      · rename_i elem a n c k i ht hx hi
        split at e
        · rename_i inf hinf hsp
          cases e
          have hb := hp _ (List.mem_singleton.2 rfl)
          refine evR_plain (by rw [ho]; rfl) hc.1 hc.2 (h0 := h) (by rw [ho]; rfl) ?_
          unfold execOp
          rw [ho]
          simp only []
          rw [arunM_bind]
          unfold Instr.indexAt
          rw [hx, hi]
          simp only [asIntOf, arunM_bind, arunM_pure, arun_underlying ht, arun_sizeOf hinf, Option.bind_some, if_pos hb, addr_add hsp]
        · cases e
      · cases e
    · cases e
def ixRule : OpRule := ⟨ixRun, ix_ok⟩

/-! ### what stands at a place -/

def scalarT (P : Program) (t : TypeId) : Bool := match P.underlying t with
  | some (.struct _) | some (.array _ _) | none => false
  | _ => true
theorem arun_loadVar {t : TypeId} (ht : scalarT P t = true) (a : Addr) (h : AH) : arun P (loadVar t a) h = arun P (load a) h := by
  unfold scalarT at ht
  unfold loadVar isAgg
  cases hd : P.underlying t with
  | none => rw [hd] at ht; cases ht
  | some d =>
    rw [hd] at ht
    cases d <;> first | (cases ht; done) | (simp only [arunM_bind, arunM_pure, arun_underlying hd, Option.bind_some]; rfl)
def ldRun (v : Nat → Value) (P : Program) (gl : Nat) (f : Fr) (o : Oper) (h : AH) : Option ((Value × AH) × List Prop) :=
  cond (o.op.operands.toList.all (operandOk gl) && !flatAll f o)
    (match o.op with
      | .load t x => match f.eval x with
        | .pointer (some a) => match a.spot, h.get a.block with
          | none, some (.cells c _ _ _ _ _) => cond (scalarT P t && oneCell (v a.off)) (some ((v a.off, h.rdBit a.block), [nth c a.off = some (v a.off)])) none
          | _, _ => none
        | _ => none
      | _ => none) none
theorem ld_ok (v : Nat → Value) : ∀ P gl f o h r ps, isCall P f o = none → ldRun v P gl f o h = some (r, ps) → All ps → evR P gl noF f o h = some r := by
  intro P gl f o h r ps _ e hp
  unfold ldRun at e
  cases hc : (o.op.operands.toList.all (operandOk gl) && !flatAll f o) with
  | false => rw [hc] at e; cases e
  | true =>
    rw [hc] at e
    simp only [Bool.and_eq_true, Bool.not_eq_true', cond_true] at hc e
    split at e
    · rename_i t x ho
      split at e
      · rename_i a hx
        split at e
        · rename_i c _ _ _ _ _ hsp hg
          cases hs : (scalarT P t && oneCell (v a.off)) with
          | false => rw [hs] at e; cases e
          | true =>
            rw [hs] at e
            cases e
            simp only [Bool.and_eq_true] at hs
            have hb := hp _ (List.mem_singleton.2 rfl)
            refine evR_plain (by rw [ho]; rfl) hc.1 hc.2 (h0 := h) (by rw [ho]; rfl) ?_
            unfold execOp
            rw [ho]
            simp only []
            unfold Instr.loadAt
            rw [hx]
            simp only [Instr.sureAddr, arunM_bind, arunM_pure, Option.bind_some, arun_loadVar hs.1]
            simp only [load, arun, hsp, hg, hb, hs.2, cond_true, Option.bind_some]
        · cases e
      · cases e
    · cases e
def ldRule (v : Nat → Value) : OpRule := ⟨ldRun v, ld_ok v⟩

/-! ### a store at a place -/

def stRun (P : Program) (gl : Nat) (f : Fr) (o : Oper) (h : AH) : Option ((Value × AH) × List Prop) :=
  cond (o.op.operands.toList.all (operandOk gl) && !flatAll f o)
    (match o.op with
      | .store t x y => match f.eval x, P.info? t with
        | .pointer (some a), some i => match a.spot, h.get a.block with
          | none, some (.cells c e lo hi ex st) => cond (Nat.beq i.size 1 && Nat.beq (f.eval y).cells.size 1 && oneCell (f.eval y) && small a.block)
              (some ((undef, h.put a.block (.cells (upd c a.off (f.eval y)) e lo hi ex st)), [a.off < c.length, lo ≤ hi ∧ ¬ (lo ≤ a.off ∧ a.off < hi)])) none
          | _, _ => none
        | _, _ => none
      | _ => none) none
theorem cells_one {v : Value} (h : oneCell v = true) : v.cells = #[v] := by
  cases v <;> first | rfl | (simp [oneCell] at h)
theorem st_ok : ∀ P gl f o h r ps, isCall P f o = none → stRun P gl f o h = some (r, ps) → All ps → evR P gl noF f o h = some r := by
  intro P gl f o h r ps _ e hp
  unfold stRun at e
  cases hc : (o.op.operands.toList.all (operandOk gl) && !flatAll f o) with
  | false => rw [hc] at e; cases e
  | true =>
    rw [hc] at e
    simp only [Bool.and_eq_true, Bool.not_eq_true', cond_true] at hc e
    split at e
    · rename_i t x y ho
      split at e
      · rename_i a i hx hi
        split at e
        · rename_i c el lo hi' ex st hsp hg
          cases hs : (Nat.beq i.size 1 && Nat.beq (f.eval y).cells.size 1 && oneCell (f.eval y) && small a.block) with
          | false => rw [hs] at e; cases e
          | true =>
            rw [hs] at e
            cases e
            simp only [Bool.and_eq_true, beq_eq, decide_eq_true_eq] at hs
            obtain ⟨⟨⟨s1, s2⟩, s3⟩, s4⟩ := hs
            have hb1 := hp _ (List.mem_cons_self ..)
            have hb2 := hp _ (List.mem_cons_of_mem _ (List.mem_singleton.2 rfl))
            refine evR_skip (by rw [ho]; rfl) hc.1 hc.2 (h0 := h) (by rw [ho]; rfl) ?_
            unfold execOp
            rw [ho]
            simp only []
            unfold Instr.storeAt storeVar
            rw [hx]
            simp only [Instr.sureAddr, arunM_bind, arunM_pure, Option.bind_some, arun_sizeOf hi, s1, s2]
            have hblt : Nat.blt a.off c.length = true := by rw [Nat.blt_eq]; exact hb1
            have hble : (Nat.blt hi' lo || (Nat.ble lo a.off && Nat.blt a.off hi')) = false := by
              rw [Bool.eq_false_iff]
              intro hq
              simp only [Bool.or_eq_true, Bool.and_eq_true, Nat.ble_eq, Nat.blt_eq] at hq
              rcases hq with hq | hq
              · have := hb2.1; omega
              · exact hb2.2 hq
            rw [cells_one s3]
            simp only [ne_eq, not_true_eq_false, if_false]
            have ha : a.add 0 = a := by rw [addr_add hsp]; cases a; simp_all
            simp only [storeCells, arunM_bind, ha, store, arun, hsp, hg, s3, s4, hblt, hble, Bool.not_false, Bool.and_self, cond_true, Option.bind_some, arunM_pure]
        · cases e
      · cases e
    · cases e
def stRule : OpRule := ⟨stRun, st_ok⟩

/-! ### a part of a row -/

def boundAt : Option Value → Option (Option Int)
  | none => some none
  | some (.int _ i) => some (some i)
  | _ => none
/-- 'x[lo:hi:mx]' of a slice. -/
def slRun (P : Program) (gl : Nat) (f : Fr) (o : Oper) (h : AH) : Option ((Value × AH) × List Prop) :=
  cond (o.op.operands.toList.all (operandOk gl) && !flatAll f o)
    (match o.op with
      | .slice t x lo hi mx => match P.underlying t, f.eval x, boundAt (lo.map f.eval), boundAt (hi.map f.eval), boundAt (mx.map f.eval) with
        | some (.slice elem), .slice (some a) n c, some l, some r, some m => match P.info? elem, a.spot, h.get a.block with
          | some inf, none, some (.cells _ e _ _ ex _) => cond ((Nat.beq (P.cellsOf e) (P.cellsOf elem) || ex) && (r.isSome || m.isNone))
              (some ((.slice (some ⟨a.block, a.off + (bif decide ((m.elim c Int.toNat) = (l.elim 0 Int.toNat)) then 0 else (l.elim 0 Int.toNat) * inf.size), none⟩) ((r.elim n Int.toNat) - (l.elim 0 Int.toNat)) ((m.elim c Int.toNat) - (l.elim 0 Int.toNat)), h.rdBit a.block),
                [n ≤ c, m.elim True (fun m => 0 ≤ m ∧ m ≤ (c : Int)), r.elim True (fun r => 0 ≤ r ∧ r ≤ ((m.elim c Int.toNat : Nat) : Int)), l.elim True (fun l => 0 ≤ l ∧ l ≤ ((r.elim n Int.toNat : Nat) : Int))])) none
          | _, _, _ => none
        | _, _, _, _, _ => none
      | _ => none) none
theorem arun_bound {x : Value} {k : IntKind} {i : Int} (hx : x = .int k i) {y : Nat} (hb : 0 ≤ i ∧ i ≤ (y : Int)) (code : BoundsCode) (h : AH) : arun P (Instr.sliceBound x y code) h = some (i.toNat, h) := by
  unfold Instr.sliceBound
  rw [hx]
  simp only [asIntOf, arunM_bind, arunM_pure, Option.bind_some, if_pos hb]
theorem boundAt_some {v : Option Value} {i : Int} (h : boundAt v = some (some i)) : ∃ k, v = some (.int k i) := by
  unfold boundAt at h
  split at h
  · cases h
  · cases h; exact ⟨_, rfl⟩
  · cases h
theorem boundAt_none {v : Option Value} (h : boundAt v = some none) : v = none := by
  unfold boundAt at h
  split at h
  · rfl
  · cases h
  · cases h
theorem sl_ok : ∀ P gl f o h r ps, isCall P f o = none → slRun P gl f o h = some (r, ps) → All ps → evR P gl noF f o h = some r := by
  intro P gl f o h r ps _ e hp
  unfold slRun at e
  cases hc : (o.op.operands.toList.all (operandOk gl) && !flatAll f o) with
  | false => rw [hc] at e; cases e
  | true =>
    rw [hc] at e
    simp only [Bool.and_eq_true, Bool.not_eq_true', cond_true] at hc e
    split at e
    · rename_i t x lo hi mx ho
      split at e
      · rename_i elem a n c l rr m ht hx hl hr hm
        split at e
        · rename_i inf _ el _ _ ex _ hinf hsp hg
          cases hs : ((Nat.beq (P.cellsOf el) (P.cellsOf elem) || ex) && (rr.isSome || m.isNone)) with
          | false => rw [hs] at e; cases e
          | true =>
            rw [hs] at e
            cases e
            simp only [Bool.and_eq_true] at hs
            have b1 := hp _ (List.mem_cons_self ..)
            have b2 := hp _ (List.mem_cons_of_mem _ (List.mem_cons_self ..))
            have b3 := hp _ (List.mem_cons_of_mem _ (List.mem_cons_of_mem _ (List.mem_cons_self ..)))
            have b4 := hp _ (List.mem_cons_of_mem _ (List.mem_cons_of_mem _ (List.mem_cons_of_mem _ (List.mem_singleton.2 rfl))))
            clear hp
            have hgd : guardA P f.eval h o.op = some (h.rdBit a.block) := by
              rw [ho]
              show sliceGuard P t (f.eval x) h = _
              unfold sliceGuard
              rw [ht, hx]
              simp only []
              rw [show Nat.ble n c = true by rw [Nat.ble_eq]; exact b1, hg]
              have hs1 := hs.1
              rw [Bool.or_comm] at hs1
              simp only [cond_true, hs1]
            refine evR_plain (by rw [ho]; rfl) hc.1 hc.2 hgd ?_
            unfold execOp
            rw [ho]
            simp only []
            generalize h.rdBit a.block = h0
            unfold Instr.sliceAt
            rw [hx]
            simp only [arunM_bind, arun_underlying ht, Option.bind_some]
            unfold Instr.slice Instr.sliceBounds
            have hif : ∀ (p : Prop) [Decidable p] (k : Nat), (if p then (some a) else (some a).map (·.add k)) = some ⟨a.block, a.off + (bif decide p then 0 else k), none⟩ := by
              intro p _ k
              by_cases hp : p
              · rw [if_pos hp]; simp only [hp, decide_true, cond_true, Nat.add_zero]; cases a; simp_all
              · rw [if_neg hp]; simp only [hp, decide_false, cond_false, Option.map_some, addr_add hsp]
            cases m with
            | none =>
              have hm' := boundAt_none hm
              cases rr with
              | none =>
                have hr' := boundAt_none hr
                cases l with
                | none =>
                  have hl' := boundAt_none hl
                  simp only [arunM_bind, arun_underlying ht, Option.bind_some, hl', hr', hm', arunM_pure, arun_sizeOf hinf, Option.elim, hif]
                  rfl
                | some li =>
                  obtain ⟨kl, hl'⟩ := boundAt_some hl
                  simp only [Option.elim] at b4
                  simp only [arunM_bind, arun_underlying ht, Option.bind_some, hl', hr', hm', arunM_pure, arun_sizeOf hinf, Option.elim, hif, Option.isSome_none, Bool.false_eq_true, if_false, arun_bound rfl b4]
                  rfl
              | some ri =>
                obtain ⟨kr, hr'⟩ := boundAt_some hr
                simp only [Option.elim] at b3
                cases l with
                | none =>
                  have hl' := boundAt_none hl
                  simp only [arunM_bind, arun_underlying ht, Option.bind_some, hl', hr', hm', arunM_pure, arun_sizeOf hinf, Option.elim, hif, if_true, arun_bound rfl b3]
                  rfl
                | some li =>
                  obtain ⟨kl, hl'⟩ := boundAt_some hl
                  simp only [Option.elim] at b4
                  simp only [arunM_bind, arun_underlying ht, Option.bind_some, hl', hr', hm', arunM_pure, arun_sizeOf hinf, Option.elim, hif, Option.isSome_none, Bool.false_eq_true, if_false, if_true, arun_bound rfl b3, arun_bound rfl b4]
                  rfl
            | some mi =>
              obtain ⟨km, hm'⟩ := boundAt_some hm
              simp only [Option.elim] at b2
              cases rr with
              | none => simp at hs
              | some ri =>
                obtain ⟨kr, hr'⟩ := boundAt_some hr
                simp only [Option.elim] at b3
                cases l with
                | none =>
                  have hl' := boundAt_none hl
                  simp only [arunM_bind, arun_underlying ht, Option.bind_some, hl', hr', hm', arunM_pure, arun_sizeOf hinf, Option.elim, hif, if_true, arun_bound rfl b2, arun_bound rfl b3]
                  rfl
                | some li =>
                  obtain ⟨kl, hl'⟩ := boundAt_some hl
                  simp only [Option.elim] at b4
                  simp only [arunM_bind, arun_underlying ht, Option.bind_some, hl', hr', hm', arunM_pure, arun_sizeOf hinf, Option.elim, hif, Option.isSome_some, if_true, arun_bound rfl b2, arun_bound rfl b3, arun_bound rfl b4]
                  rfl
        · cases e
      · cases e
    · cases e
def slRule : OpRule := ⟨slRun, sl_ok⟩
/-- The same, where the part does not begin at the end of the room. -/
def slRunNe (P : Program) (gl : Nat) (f : Fr) (o : Oper) (h : AH) : Option ((Value × AH) × List Prop) :=
  cond (o.op.operands.toList.all (operandOk gl) && !flatAll f o)
    (match o.op with
      | .slice t x lo hi mx => match P.underlying t, f.eval x, boundAt (lo.map f.eval), boundAt (hi.map f.eval), boundAt (mx.map f.eval) with
        | some (.slice elem), .slice (some a) n c, some l, some r, some m => match P.info? elem, a.spot, h.get a.block with
          | some inf, none, some (.cells _ e _ _ ex _) => cond ((Nat.beq (P.cellsOf e) (P.cellsOf elem) || ex) && (r.isSome || m.isNone))
              (some ((.slice (some ⟨a.block, a.off + (l.elim 0 Int.toNat) * inf.size, none⟩) ((r.elim n Int.toNat) - (l.elim 0 Int.toNat)) ((m.elim c Int.toNat) - (l.elim 0 Int.toNat)), h.rdBit a.block),
                [n ≤ c, m.elim True (fun m => 0 ≤ m ∧ m ≤ (c : Int)), r.elim True (fun r => 0 ≤ r ∧ r ≤ ((m.elim c Int.toNat : Nat) : Int)), l.elim True (fun l => 0 ≤ l ∧ l ≤ ((r.elim n Int.toNat : Nat) : Int)), (m.elim c Int.toNat) ≠ (l.elim 0 Int.toNat)])) none
          | _, _, _ => none
        | _, _, _, _, _ => none
      | _ => none) none
theorem slNe_ok : ∀ P gl f o h r ps, isCall P f o = none → slRunNe P gl f o h = some (r, ps) → All ps → evR P gl noF f o h = some r := by
  intro P gl f o h r ps hcall e hp
  have key : ∃ ps', slRun P gl f o h = some (r, ps') ∧ All ps' := by
    unfold slRunNe at e
    unfold slRun
    cases hc : (o.op.operands.toList.all (operandOk gl) && !flatAll f o) with
    | false => rw [hc] at e; cases e
    | true =>
      rw [hc] at e
      simp only [cond_true] at e ⊢
      split at e
      · rename_i t x lo hi mx ho
        split at e
        · rename_i elem a n c l rr m ht hx hl hr hm
          split at e
          · rename_i inf _ el _ _ ex _ hinf hsp hg
            cases hs : ((Nat.beq (P.cellsOf el) (P.cellsOf elem) || ex) && (rr.isSome || m.isNone)) with
            | false => rw [hs] at e; cases e
            | true =>
              rw [hs] at e
              cases e
              have b5 := hp _ (List.mem_cons_of_mem _ (List.mem_cons_of_mem _ (List.mem_cons_of_mem _ (List.mem_cons_of_mem _ (List.mem_singleton.2 rfl)))))
              simp only [cond_true, b5, decide_false, cond_false]
              refine ⟨_, rfl, fun p hq => hp p ?_⟩
              simp only [List.mem_cons, List.not_mem_nil, or_false] at hq ⊢
              rcases hq with rfl | rfl | rfl | rfl <;> simp
          · cases e
        · cases e
      · cases e
  obtain ⟨ps', e', hp'⟩ := key
  exact sl_ok P gl f o h r ps' hcall e' hp'
def slRuleNe : OpRule := ⟨slRunNe, slNe_ok⟩
end
end Go.Ev
