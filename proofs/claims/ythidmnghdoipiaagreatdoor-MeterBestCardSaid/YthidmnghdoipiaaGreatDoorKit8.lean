/- A certified evaluator of calls, run by the kernel, with its rules for what is not known: what it tells holds of every program. -/
import Derived.Deep.Slices
import Derived.Test.YthidmnghdoipiaaGreatDoorKit6
import Derived.Test.YthidmnghdoipiaaGreatDoorKit7
namespace Go.Ev
open Go Go.RowKit Go.Deep

section
variable {P : Program} {gl : Nat}
def aggT (P : Program) (t : TypeId) (n : Nat) : Bool := match P.underlying t, P.info? t with
  | some (.struct _), some i => Nat.beq i.size n
  | _, _ => false
theorem arun_loadAgg {t : TypeId} {n : Nat} (ht : aggT P t n = true) (a : Addr) (h : AH) : arun P (loadVar t a) h = (arun P (loadCells a n) h).bind fun x => some (.agg x.1, x.2) := by
  unfold aggT at ht
  split at ht
  · rename_i fs i hd hi
    have hn : i.size = n := by rw [beq_eq, decide_eq_true_eq] at ht; exact ht
    subst hn
    unfold loadVar isAgg
    simp only [arunM_bind, arunM_pure, arun_underlying hd, Option.bind_some, if_true, arun_sizeOf hi]
  · cases ht
def ldsRun (vs : List Value) (P : Program) (gl : Nat) (f : Fr) (o : Oper) (h : AH) : Option ((Value × AH) × List Prop) :=
  cond (o.op.operands.toList.all (operandOk gl) && !flatAll f o)
    (match o.op with
      | .load t x => match f.eval x with
        | .pointer (some a) => match a.spot, h.get a.block with
          | none, some (.cells c _ _ _ _ _) => cond (aggT P t vs.length && vs.all oneCell && Nat.blt 0 vs.length) (some ((.agg ⟨vs⟩, h.rdBit a.block), [a.off + vs.length ≤ c.length, takeL c a.off vs.length = vs])) none
          | _, _ => none
        | _ => none
      | _ => none) none
theorem lds_ok (vs : List Value) : ∀ P gl f o h r ps, isCall P f o = none → ldsRun vs P gl f o h = some (r, ps) → All ps → evR P gl noF f o h = some r := by
  intro P gl f o h r ps _ e hp
  unfold ldsRun at e
  cases hc : (o.op.operands.toList.all (operandOk gl) && !flatAll f o) with
  | false => rw [hc] at e; cases e
  | true =>
    rw [hc] at e
    simp only [Bool.and_eq_true, Bool.not_eq_true', cond_true] at hc e
    split at e
    · rename_i t x ho
      split at e
      · rename_i a hx
        split at e
        · rename_i c _ _ _ _ _ hsp hg
          cases hs : (aggT P t vs.length && vs.all oneCell && Nat.blt 0 vs.length) with
          | false => rw [hs] at e; cases e
          | true =>
            rw [hs] at e
            cases e
            simp only [Bool.and_eq_true] at hs
            have hb := hp _ (List.mem_cons_self ..)
            have ht := hp _ (List.mem_cons_of_mem _ (List.mem_singleton.2 rfl))
            have hl : 0 < vs.length := by simpa using hs.2
            refine evR_plain (by rw [ho]; rfl) hc.1 hc.2 (h0 := h) (by rw [ho]; rfl) ?_
            unfold execOp
            rw [ho]
            simp only []
            unfold Instr.loadAt
            rw [hx]
            simp only [Instr.sureAddr, arunM_bind, arunM_pure, Option.bind_some, arun_loadAgg hs.1.1]
            unfold loadCells
            rw [arun_cellsFrom hsp vs.length 0 #[] h hg (by omega) (by rw [Nat.add_zero, ht]; exact hs.1.2)]
            rw [Nat.add_zero, ht, if_neg (by omega)]
            simp only [Option.bind_some]
            rfl
        · cases e
      · cases e
    · cases e
/-- A struct of known cells. -/
def ldsRule (vs : List Value) : OpRule := ⟨ldsRun vs, lds_ok vs⟩
end

/-! ### rows of structs that came in -/

def flatR (f : Nat → List Value) : Nat → List Value
  | 0 => []
  | n + 1 => flatR f n ++ f n
theorem flatR_len {f : Nat → List Value} {C : Nat} : ∀ {n : Nat}, (∀ i, i < n → (f i).length = C) → (flatR f n).length = n * C
  | 0, _ => by simp [flatR]
  | n + 1, h => by
    show (flatR f n ++ f n).length = _
    rw [List.length_append, flatR_len fun i hi => h i (by omega), h n (by omega), Nat.succ_mul]
theorem flatR_at {f : Nat → List Value} {C : Nat} : ∀ {n : Nat}, (∀ i, i < n → (f i).length = C) → ∀ i j, i < n → j < C → (flatR f n)[i * C + j]? = (f i)[j]?
  | 0, _, i, j, hi, _ => absurd hi (Nat.not_lt_zero _)
  | n + 1, h, i, j, hi, hj => by
    show (flatR f n ++ f n)[i * C + j]? = _
    have hl : (flatR f n).length = n * C := flatR_len fun i hi => h i (by omega)
    rcases Nat.lt_or_ge i n with q | q
    · have : i * C + C ≤ n * C := by rw [← Nat.succ_mul]; exact Nat.mul_le_mul_right _ q
      rw [List.getElem?_append_left (by rw [hl]; omega)]
      exact flatR_at (fun i hi => h i (by omega)) i j q hj
    · have : i = n := by omega
      subst this
      rw [List.getElem?_append_right (by rw [hl]; omega), hl, Nat.add_sub_cancel_left]
theorem flatR_take {f : Nat → List Value} {C n : Nat} (h : ∀ i, i < n → (f i).length = C) {i : Nat} (hi : i < n) : i * C + C ≤ (flatR f n).length ∧ takeL (flatR f n) (i * C) C = f i := by
  have hl := flatR_len h
  have hle : i * C + C ≤ n * C := by rw [← Nat.succ_mul]; exact Nat.mul_le_mul_right _ hi
  refine ⟨by omega, ?_⟩
  unfold takeL
  apply List.ext_getElem?
  intro j
  rw [List.getElem?_take]
  by_cases hj : j < C
  · rw [if_pos hj, List.getElem?_drop, flatR_at h i j hi hj]
  · rw [if_neg hj, List.getElem?_eq_none (by rw [h i hi]; omega)]
theorem flatR_flat {f : Nat → List Value} : ∀ {n : Nat}, (∀ i, i < n → flatL (f i) = true) → flatL (flatR f n) = true
  | 0, _ => rfl
  | n + 1, h => by
    show flatL (flatR f n ++ f n) = true
    rw [flatL_append, flatR_flat fun i hi => h i (by omega), h n (by omega)]; rfl

theorem mapM_range_at {α : Type} {F : Nat → Option α} : ∀ {n : Nat} {l : List α}, (List.range n).mapM F = some l → l.length = n ∧ ∀ i, i < n → F i = l[i]?
  | 0, l, h => by
    simp at h
    subst h
    exact ⟨rfl, fun i hi => absurd hi (Nat.not_lt_zero _)⟩
  | n + 1, l, h => by
    rw [List.range_succ, List.mapM_append] at h
    cases h1 : (List.range n).mapM F with
    | none => rw [h1] at h; cases h
    | some l1 =>
      rw [h1] at h
      cases h2 : F n with
      | none => simp [h2] at h
      | some y =>
        simp [h2] at h
        subst h
        obtain ⟨q1, q2⟩ := mapM_range_at h1
        refine ⟨by simp [q1], fun i hi => ?_⟩
        rcases Nat.lt_or_ge i n with q | q
        · rw [List.getElem?_append_left (by omega)]; exact q2 i q
        · have : i = n := by omega
          subst this
          rw [List.getElem?_append_right (by omega), q1, Nat.sub_self, h2]
          rfl
section
variable {P : Program}
/-- A slice of structs (or of whatever takes more than no cell) that has come in. -/
theorem rows_came {H : Type} {enc : TypeId × Value → H} {W : World} {t e : TypeId} {v : Value} {b0 : Nat} {d : DataW H} {ps : List MemPlace} (ht : P.underlying t = some (.slice e)) {C : Nat} (hc : P.cellsOf e = C) (hC : 0 < C)
    (hval : Value.okWide P W .any b0 t v) (hd : DataW.Trod enc P W 0 (fun _ => true) true t v d ps) :
    v = .slice none 0 0 ∨ ∃ a n c f, v = .slice (some a) n c ∧ n ≤ c ∧ (∀ i, i < c → (f i).length = C ∧ ∃ fuel y, DataW.trod enc P W 0 (fun _ => true) true fuel e (f i) = some y) ∧
      ((∀ i, i < c → flatL (f i) = true) → Came W (flatR f c) a) ∧ ∃ ls ss, d = .slice ls ss ∧ ls.length + ss.length = c := by
  rcases slice_came ht hval with rfl | ⟨a, n, c, rfl, hs, hlt⟩
  · exact .inl rfl
  right
  obtain ⟨fuel, hf⟩ := hd
  rcases open_slice ht hf with ⟨hx, _⟩ | ⟨a1, n1, c1, m, fu, D, Pl, hx, _, hl, _, hm, hdd, hcell⟩
  · cases hx
  · simp only [if_true] at hm
    have hx' : [Value.slice (some a) n c] = [Value.slice (some a1) n1 c1] := hx
    cases hx'
    subst hm
    rw [hc] at hcell
    let f : Nat → List Value := fun i => (W.cells? 0 (a.add (i * C)) C).getD []
    have hfi : ∀ i, i < m → W.cells? 0 (a.add (i * C)) C = some (f i) := fun i hi => by
      obtain ⟨cs', q, _⟩ := hcell i hi
      simp only [f, q, Option.getD_some]
    have hlen : ∀ i, i < m → (f i).length = C ∧ ∀ j, j < C → W.cell? ((a.add (i * C)).add j) = (f i)[j]? := fun i hi => by
      have := hfi i hi
      unfold World.cells? at this
      rw [if_pos (Nat.zero_le _)] at this
      exact mapM_range_at this
    have hrow : ∀ i j, i < m → j < C → ∃ cs' e' fz, W.heap[a.block]? = some (.cells cs' e' fz) ∧ cs'[a.off + (i * C + j)]? = (f i)[j]? := fun i j hi hj => by
      have q := (hlen i hi).2 j hj
      rw [addr_add hs, addr_add rfl] at q
      have hsome : (f i)[j]? = some ((f i)[j]'(by rw [(hlen i hi).1]; exact hj)) := List.getElem?_eq_getElem _
      rw [hsome] at q ⊢
      unfold World.cell? at q
      simp only [] at q
      cases hh : W.heap[a.block]? with
      | none => rw [hh] at q; cases q
      | some o =>
        rw [hh] at q
        cases o with
        | cells cs' e' fz => exact ⟨cs', e', fz, rfl, by rw [← Nat.add_assoc]; exact q⟩
        | _ => cases q
    have hblk : ∃ cs' e' fz, W.heap[a.block]? = some (.cells cs' e' fz) ∧ a.off + m * C ≤ cs'.size := by
      have h := hval
      simp only [Value.okWide, ht, Cell.okWide, Cell.ok, World.has] at h
      obtain ⟨_, _, _, hsp, row, cells, hsh, hlies⟩ := h
      unfold World.shape? at hsh
      cases hh : W.heap[a.block]? with
      | none => rw [hh] at hsh; cases hsh
      | some o =>
        rw [hh] at hsh
        cases o with
        | cells cs' e' fz =>
          simp only [Option.some.injEq, Prod.mk.injEq] at hsh
          obtain ⟨h1, h2⟩ := hsh
          subst h1 h2
          refine ⟨cs', e', fz, rfl, ?_⟩
          rcases Nat.eq_zero_or_pos m with hc0 | hc0
          · have h1 := liesAt_off hlies
            have h2 : cs'.size / P.cellsOf e' * P.cellsOf e' ≤ cs'.size := Nat.div_mul_le_self ..
            rw [hc0]
            omega
          · obtain ⟨cs2, e2, fz2, g1, g2⟩ := hrow (m - 1) (C - 1) (by omega) (by omega)
            rw [hh] at g1
            cases g1
            rw [List.getElem?_eq_getElem (by rw [(hlen (m - 1) (by omega)).1]; omega)] at g2
            have g3 := (Array.getElem?_eq_some_iff.1 g2).1
            have g4 : (m - 1) * C + C = m * C := by rw [← Nat.succ_mul]; congr 1; omega
            omega
        | _ => cases hsh
    obtain ⟨cs', e', fz, hh, hle⟩ := hblk
    refine ⟨a, n, m, f, rfl, hl, fun i hi => ⟨(hlen i hi).1, ?_⟩, fun hfl => ⟨hs, ⟨cs', e', fz, hh, by rw [flatR_len fun i hi => (hlen i hi).1]; exact hle, fun k x hx => ?_⟩, flatR_flat hfl⟩, _, _, congrArg Prod.fst hdd, ?_⟩
    · obtain ⟨cs2, q1, q2⟩ := hcell i hi
      rw [hfi i hi] at q1
      cases q1
      exact ⟨_, _, q2⟩
    · have hk : k < m * C := by
        have := (List.getElem?_eq_some_iff.1 hx).1
        rw [flatR_len fun i hi => (hlen i hi).1] at this
        exact this
      have hdm : k = (k / C) * C + k % C := by rw [Nat.mul_comm]; exact (Nat.div_add_mod k C).symm
      have hi : k / C < m := Nat.div_lt_of_lt_mul (by rw [Nat.mul_comm]; exact hk)
      have hj : k % C < C := Nat.mod_lt _ hC
      rw [hdm, flatR_at (fun i hi => (hlen i hi).1) _ _ hi hj] at hx
      obtain ⟨cs2, e2, fz2, g2, g3⟩ := hrow (k / C) (k % C) hi hj
      rw [hh] at g2
      cases g2
      rw [hdm, g3, hx]
    · simp; omega
end
end Go.Ev
