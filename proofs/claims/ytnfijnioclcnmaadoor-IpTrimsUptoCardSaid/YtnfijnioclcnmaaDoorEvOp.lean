/- Every operation that the evaluator takes: over related values it is a program of one shape. Holds for every program. -/
import Derived.Test.YtnfijnioclcnmaaDoorEvFrame
namespace Go.Ev
open Go

inductive NextR (κ : K) : Next → Next → Prop
  | value {v v' : Value} : VR κ v v' → NextR κ (.value v) (.value v')
  | skip : NextR κ .skip .skip
section
variable {P : Program} {κ : K}
theorem sr_v {s s' : Sem Value} (h : SR P VR κ s s') : SR P NextR κ (do pure (Next.value (← s))) (do pure (Next.value (← s'))) :=
  SR.bind' h fun _ _ _ _ hv => .pure (.value hv)
theorem sr_u {s s' : Sem Unit} (h : SR P EqR κ s s') : SR P NextR κ (do s; pure Next.skip) (do s'; pure Next.skip) :=
  SR.bind' h fun _ _ _ _ _ => .pure .skip

/-- Numbers to numbers, nil to something of its kind, or two pointers. -/
def EqC (P : Program) (t : TypeId) (x y : Value) : Prop :=
  nilPair x y = true ∨ ((∃ e, P.underlying t = some (.pointer e)) ∧ ∃ a b, x = .pointer (some a) ∧ y = .pointer (some b))
def MapC (P : Program) (t : TypeId) (k : Value) : Prop := MapOk P t ∧ plainKey k = true
def OpC (P : Program) (κ : K) (ρ : Operand → Value) : Op → Prop
  | .move _ | .assign _ | .pick .. | .alloc _ | .box .. | .build .. | .buildSlice .. | .load .. | .store .. | .makeInterface .. | .field .. | .indexAddr .. | .index .. | .typeAssert .. | .extract ..
  | .makeMap .. | .makeSlice .. | .entryStore .. => True
  | .nilCheck x => ∀ n f c, ρ x ≠ .func (.method n) f c
  | .makeFunc fn _ _ => ∀ l, fn ≠ .yield l
  | .slice t x _ _ _ => SliceOk P κ t (ρ x) ∧ ∀ d, P.underlying t = some d → (match d with | .pointer _ => False | _ => True)
  | .fieldAddr s _ f => ∀ fields fd, P.underlying s = some (.struct fields) → fields[f]? = some fd → P.cellsOf fd.type ≠ 0
  | .lookup t _ i _ | .mapUpdate t _ i _ | .insert t _ i _ | .mapEntry t _ i => MapC P t (ρ i)
  | .range _ x => ∀ m, ρ x ≠ .map (some m)
  | .next it _ => AtHead κ (ρ it)
  | .binOp op t x y _ => (op = .eql ∨ op = .neq) ∧ EqC P t (ρ x) (ρ y)
  | .convert src dst x => (∃ e, P.underlying src = some (.slice e) ∧ P.underlying e = some (.int .u8) ∧ P.underlying dst = some .string) ∧ ∃ a n c, ρ x = .slice a n c
  | .call c => (c.callee = .builtin .len ∨ c.callee = .builtin .copy ∨
      (c.callee = .builtin .delete ∧ (∀ x, c.argTypes[0]? = some x → MapOk P x) ∧ ∀ k, (c.args.map ρ)[1]? = some k → plainKey k = true))
  | _ => False

theorem AR.map {ρ ρ' : Operand → Value} {xs : Array Operand} (h : ∀ x ∈ xs, VR κ (ρ x) (ρ' x)) : AR κ (xs.map ρ) (xs.map ρ') := by
  refine VL.of_get (by simp) fun i v v' e e' => ?_
  simp only [Array.getElem?_toList, Array.getElem?_map, Option.map_eq_some_iff] at e e'
  obtain ⟨x, hx, rfl⟩ := e
  obtain ⟨y, hy, rfl⟩ := e'
  rw [hx] at hy
  cases hy
  exact h x (Array.mem_of_getElem? hx)
theorem PL.map {ρ ρ' : Operand → Value} {xs : List (Nat × Operand)} (h : ∀ x ∈ xs, VR κ (ρ x.2) (ρ' x.2)) : PL κ (xs.map fun x => (x.1, ρ x.2)) (xs.map fun x => (x.1, ρ' x.2)) := by
  induction xs with
  | nil => exact .nil
  | cons x xs ih => exact .cons (h x (by simp)) (ih fun y hy => h y (by simp [hy]))
theorem or_map {ρ ρ' : Operand → Value} {x : Option Operand} (h : ∀ y, x = some y → VR κ (ρ y) (ρ' y)) : OR κ (x.map ρ) (x.map ρ') := by
  cases x with
  | none => exact .none
  | some y => exact .some (h y rfl)

theorem sr_eqGuard (op : BinOp) (t : TypeId) (x y : Operand) {a a' b b' : Value} (ha : VR κ a a') (hb : VR κ b b') (hc : EqC P t a b) : SR P EqR κ (eqGuard op t x y a b) (eqGuard op t x y a' b') := by
  have h1 : ∀ a b : Value, EqC P t a b → eqGuard op t x y a b = pure () := by
    intro a b hc
    rcases hc with hc | ⟨_, a, b, rfl, rfl⟩
    · unfold eqGuard
      cases a <;> cases b <;> first
        | (cases hc; done)
        | (cases op <;> rfl)
    · unfold eqGuard
      cases op <;> rfl
  have h2 : EqC P t a' b' := by
    rcases hc with hc | ⟨he, x, y, rfl, rfl⟩
    · left
      cases ha <;> cases hb <;> first | exact hc | (cases hc; done)
    · right
      refine ⟨he, ?_⟩
      cases ha; cases hb
      exact ⟨_, _, rfl, rfl⟩
  rw [h1 a b hc, h1 a' b' h2]
  exact .pure rfl
theorem sr_equal {t : TypeId} {a a' b b' : Value} (ha : VR κ a a') (hb : VR κ b b') (hc : EqC P t a b) : SR P EqR κ (Op.equal t a b) (Op.equal t a' b') := by
  rcases hc with hc | ⟨he, x, y, rfl, rfl⟩
  · exact sr_equal_nil t ha hb hc
  · cases ha with
    | ptr h1 => cases hb with
      | ptr h2 => exact sr_equal_ptr t he h1 h2
theorem binOp_eql (t : TypeId) (x y : Value) (h : EqC P t x y) : binOp .eql t x y = (do pure (.bool (← Op.equal t x y))) := by
  rcases h with hc | ⟨_, a, b, rfl, rfl⟩
  · cases x <;> cases y <;> first | rfl | (cases hc; done)
  · rfl
theorem binOp_neq (t : TypeId) (x y : Value) (h : EqC P t x y) : binOp .neq t x y = (do pure (.bool (!(← Op.equal t x y)))) := by
  rcases h with hc | ⟨_, a, b, rfl, rfl⟩
  · cases x <;> cases y <;> first | rfl | (cases hc; done)
  · rfl
theorem EqC.rel {t : TypeId} {a a' b b' : Value} (ha : VR κ a a') (hb : VR κ b b') (hc : EqC P t a b) : EqC P t a' b' := by
  rcases hc with hc | ⟨he, x, y, rfl, rfl⟩
  · left
    cases ha <;> cases hb <;> first | exact hc | (cases hc; done)
  · right
    refine ⟨he, ?_⟩
    cases ha; cases hb
    exact ⟨_, _, rfl, rfl⟩

theorem op_sr (hz : ZerosFlat P) {ρ ρ' : Operand → Value} (o : Oper) (hρ : ∀ x ∈ o.op.operands, VR κ (ρ x) (ρ' x)) (hc : OpC P κ ρ o.op) : SR P NextR κ (execOp ρ o) (execOp ρ' o) := by
  obtain ⟨dst, op, type, pos, after, guard⟩ := o
  simp only [] at hρ hc
  cases op <;> simp only [execOp] <;> simp only [Op.operands] at hρ
  case move x => exact .pure (.value (hρ x (by simp)))
  case assign x => exact .pure (.value (hρ x (by simp)))
  case pick c a b =>
    refine SR.bind' (sr_asBool (hρ c (by simp))) ?_
    rintro κ1 q _ hk rfl
    refine .pure (.value ?_)
    cases q
    · exact (hρ b (by simp)).mono hk
    · exact (hρ a (by simp)).mono hk
  case alloc e => exact sr_v (sr_alloc hz e)
  case box e x => exact sr_v (sr_box e (hρ x (by simp)))
  case build t ps =>
    refine sr_v (sr_build hz t ?_)
    simp only [Array.toList_map]
    exact PL.map fun x hx => hρ x.2 (by simp; exact ⟨x.1, by simpa using hx⟩)
  case buildSlice t n ps =>
    refine sr_v (sr_buildSlice hz t n ?_)
    simp only [Array.toList_map]
    exact PL.map fun x hx => hρ x.2 (by simp; exact ⟨x.1, by simpa using hx⟩)
  case insert t m k x =>
    have := plain_rel (hρ k (by simp)) hc.2
    rw [this]
    exact sr_u (sr_mapUpdate t hc.1 (hρ m (by simp)) hc.2 (hρ x (by simp)))
  case load t a => exact sr_v (sr_loadAt t (hρ a (by simp)))
  case store t a x => exact sr_u (sr_storeAt t (hρ a (by simp)) (hρ x (by simp)))
  case nilCheck x =>
    have hx := hρ x (by simp)
    have hn := hc
    simp only [OpC] at hn
    revert hx hn
    generalize ρ x = v
    generalize ρ' x = v'
    intro hx hn
    cases hx with
    | func hfn h1 h2 =>
      rename_i fn f c f' c'
      cases fn <;> first
        | exact absurd rfl (hn _ _ _)
        | exact .pure (.value (.func hfn h1 h2))
    | ptrNil => exact .triv (dies_runtimePanic _)
    | nilIface => exact .triv (dies_runtimePanic _)
    | nilFunc => exact .triv (dies_runtimePanic _)
    | yield l => exact .pure (.value (.yield l))
    | ptr h => exact .pure (.value (.ptr h))
    | bool b => exact .pure (.value (.bool b))
    | int k n => exact .pure (.value (.int k n))
    | float k n => exact .pure (.value (.float k n))
    | complex k n m => exact .pure (.value (.complex k n m))
    | string s => exact .pure (.value (.string s))
    | sliceNil n c => exact .pure (.value (.sliceNil n c))
    | slice h => exact .pure (.value (.slice h))
    | mapNil => exact .pure (.value .mapNil)
    | map h => exact .pure (.value (.map h))
    | chanNil => exact .pure (.value .chanNil)
    | iface h => exact .pure (.value (.iface h))
    | agg h => exact .pure (.value (.agg h))
    | tuple h => exact .pure (.value (.tuple h))
  case binOp op t x y yt =>
    obtain ⟨ho, he⟩ := hc
    have hx := hρ x (by simp)
    have hy := hρ y (by simp)
    have main : SR P VR κ (do eqGuard op t x y (ρ x) (ρ y); binOp op t (ρ x) (ρ y)) (do eqGuard op t x y (ρ' x) (ρ' y); binOp op t (ρ' x) (ρ' y)) := by
      refine SR.bind' (sr_eqGuard op t x y hx hy he) ?_
      rintro κ1 _ _ hk rfl
      rcases ho with rfl | rfl
      · rw [binOp_eql t _ _ he, binOp_eql t _ _ (he.rel hx hy)]
        refine SR.bind' (sr_equal (hx.mono hk) (hy.mono hk) he) ?_
        rintro κ2 b _ hk2 rfl
        exact .pure (.bool _)
      · rw [binOp_neq t _ _ he, binOp_neq t _ _ (he.rel hx hy)]
        refine SR.bind' (sr_equal (hx.mono hk) (hy.mono hk) he) ?_
        rintro κ2 b _ hk2 rfl
        exact .pure (.bool _)
    exact sr_v main
  case convert src dst x =>
    obtain ⟨⟨e, h1, h2, h3⟩, sa, sn, sc, hsl⟩ := hc
    refine sr_v ?_
    unfold convert
    refine SR.bind' (sr_underlying' src) ?_
    rintro κ1 d1 _ hk ⟨rfl, e1⟩
    rw [h1] at e1; cases e1
    refine SR.bind' (sr_underlying' dst) ?_
    rintro κ2 d2 _ hk2 ⟨rfl, e2⟩
    rw [h3] at e2; cases e2
    have hv := ((hρ x (by simp)).mono hk).mono hk2
    have fin : ∀ {v v' : Value}, VR κ2 v v' → SR P VR κ2 (do match ← underlying e with
        | .int .u8 => Conv.bytesToString v
        | .int .i32 => Conv.runesToString v
        | _ => stuck "Convert: a slice of what to string?") (do match ← underlying e with
        | .int .u8 => Conv.bytesToString v'
        | .int .i32 => Conv.runesToString v'
        | _ => stuck "Convert: a slice of what to string?") := by
      intro v v' hv
      refine SR.bind' (sr_underlying' e) ?_
      rintro κ3 d3 _ hk3 ⟨rfl, e3⟩
      rw [h2] at e3; cases e3
      exact sr_bytesToString (hv.mono hk3)
    rw [hsl] at hv ⊢
    generalize ρ' x = v' at hv ⊢
    cases hv with
    | slice h => exact fin (.slice h)
    | sliceNil _ _ => exact fin (.sliceNil _ _)
  case makeInterface t x => exact sr_v (sr_makeInterface t (hρ x (by simp)))
  case makeFunc fn fs cs => exact sr_v (sr_makeFunc hc (AR.map fun x hx => hρ x (by simp [hx])) (AR.map fun x hx => hρ x (by simp [hx])))
  case makeMap t r => exact sr_v (sr_makeMap t (or_map fun y hy => hρ y (by simp [hy])))
  case makeSlice t l c => exact sr_v (sr_makeSlice hz t (hρ l (by simp)) (hρ c (by simp)))
  case slice t x lo hi mx =>
    exact sr_v (sr_sliceAt t (hρ x (by simp)) hc.1 (or_map fun y hy => hρ y (by simp [hy])) (or_map fun y hy => hρ y (by simp [hy])) (or_map fun y hy => hρ y (by simp [hy])) hc.2)
  case fieldAddr s x f => exact sr_v (sr_fieldAt s (hρ x (by simp)) f hc)
  case field t x f => exact sr_v (sr_field t (hρ x (by simp)) f)
  case indexAddr t x i => exact sr_v (sr_indexAt t (hρ x (by simp)) (hρ i (by simp)))
  case index t x i => exact sr_v (sr_index t (hρ x (by simp)) (hρ i (by simp)))
  case lookup t x i ok =>
    have := plain_rel (hρ i (by simp)) hc.2
    rw [this]
    exact sr_v (sr_lookup hz t hc.1 (hρ x (by simp)) hc.2 ok)
  case mapUpdate t m k x =>
    have := plain_rel (hρ k (by simp)) hc.2
    rw [this]
    exact sr_u (sr_mapUpdate t hc.1 (hρ m (by simp)) hc.2 (hρ x (by simp)))
  case mapEntry t m k =>
    have := plain_rel (hρ k (by simp)) hc.2
    rw [this]
    exact sr_v (sr_mapEntry hz t hc.1 (hρ m (by simp)) hc.2)
  case entryStore t m s x => exact sr_u (sr_entryStore t (hρ m (by simp)) (hρ s (by simp)) (hρ x (by simp)))
  case range t x => exact sr_v (sr_range t (hρ x (by simp)) hc)
  case next it isS => exact sr_v (sr_next (hρ it (by simp)) hc isS type)
  case typeAssert x xt at_ ok => exact sr_v (sr_typeAssert hz (hρ x (by simp)) xt at_ ok)
  case extract t i => exact sr_v (sr_extract (hρ t (by simp)) i)
  case call c =>
    obtain ⟨callee, args, ats⟩ := c
    simp only [OpC] at hc
    have hargs : AR κ (args.map ρ) (args.map ρ') := AR.map fun x hx => hρ x (by simp [Call.operands]; exact Or.inr hx)
    rcases hc with rfl | rfl | ⟨rfl, hm, hp⟩
    · exact sr_v (sr_len ats type hargs)
    · exact sr_v (sr_copy ats type hargs)
    · exact sr_v (sr_delete ats type hargs hm hp)
  all_goals exact hc.elim
end
end Go.Ev
