/- Regions whose order is open: the proof. Holds for every program. -/
import Derived.Test.YtnfijnioclcnmaaDoorEvDraw
namespace Go.Ev
open Go

def zeroB (h : AH) : AH := { h with rd := 0, wr := 0 }
def orB (h h1 : AH) : AH := { h1 with rd := h.rd ||| h1.rd, wr := h.wr ||| h1.wr }
/-- What was touched; what was written or made. -/
def footOf (h h1 : AH) : Nat × Nat := (h1.rd ||| h1.wr, h1.wr ||| (((1 <<< (h1.n - h.n)) - 1) <<< h.n))
def drawOps (ev : OpEv) (ops : Array Oper) : Nat → Nat → Fr → AH → Option (Fr × AH × List (Nat × Nat))
  | 0, _, f, h => some (f, h, [])
  | k + 1, i, f, h =>
    match stepOp ev ops i f (zeroB h) with
    | some (f1, h1) => match drawOps ev ops k (i + 1) f1 (orB h h1) with
      | some (f2, h2, l) => some (f2, h2, footOf h h1 :: l)
      | none => none
    | none => none
def calm (a b : Nat × Nat) : Bool := Nat.beq (a.2 &&& (b.1 ||| b.2)) 0 && Nat.beq (b.2 &&& a.1) 0
def drawOk (pl : List (Nat × Nat)) (fs : List (Nat × Nat)) : Bool :=
  Nat.beq (fs.foldl (fun m x => m ||| x.2) 0) 0 || pl.all fun x => match nth fs x.1, nth fs x.2 with
    | some a, some b => calm a b
    | _, _ => false
def region (ev : OpEv) (ops : Array Oper) (draw : Bool) (f : Fr) (h : AH) : Option (Fr × AH) :=
  cond draw
    (match regionPlan ops with
      | some pl => match drawOps ev ops ops.size 0 f h with
        | some (f', h', l) => cond (drawOk pl l && Region.noSelect ops) (some (f', h')) none
        | none => none
      | none => none)
    (runOps ev ops (List.range ops.size) f h)

theorem testBit_range (a b j : Nat) : ((((1 <<< (b - a)) - 1) <<< a).testBit j) = (decide (a ≤ j) && decide (j < b)) := by
  rw [Nat.one_shiftLeft, Nat.testBit_shiftLeft, Nat.testBit_two_pow_sub_one]
  by_cases h : a ≤ j
  · have : (j - a < b - a) ↔ j < b := by omega
    simp [h, this]
  · simp [h]
theorem foot_fst (h h1 : AH) (j : Nat) : (footOf h h1).1.testBit j = h1.touched j := by
  simp [footOf, AH.touched]
theorem foot_snd (h h1 : AH) (j : Nat) : (footOf h h1).2.testBit j = true ↔ h1.wr.testBit j = true ∨ (h.n ≤ j ∧ j < h1.n) := by
  simp only [footOf, Nat.testBit_or, testBit_range, Bool.or_eq_true, Bool.and_eq_true, decide_eq_true_eq]
theorem calm_spec {a b : Nat × Nat} (h : calm a b = true) (j : Nat) : (a.2.testBit j = true → b.1.testBit j = false ∧ b.2.testBit j = false) ∧ (b.2.testBit j = true → a.1.testBit j = false) := by
  simp only [calm, Bool.and_eq_true, beq_eq, decide_eq_true_eq] at h
  have h1 := congrArg (fun m => Nat.testBit m j) h.1
  have h2 := congrArg (fun m => Nat.testBit m j) h.2
  simp only [Nat.testBit_and, Nat.testBit_or, Nat.zero_testBit] at h1 h2
  constructor
  · intro ha
    rw [ha, Bool.true_and, Bool.or_eq_false_iff] at h1
    exact h1
  · intro hb
    rw [hb, Bool.true_and] at h2
    exact h2
theorem fold_wr : ∀ (fs : List (Nat × Nat)) (m : Nat), fs.foldl (fun m x => m ||| x.2) m = 0 → m = 0 ∧ ∀ (i : Nat) x, fs[i]? = some x → x.2 = 0
  | [], m, h => ⟨h, fun i x e => by simp at e⟩
  | x :: fs, m, h => by
    obtain ⟨h1, h2⟩ := fold_wr fs _ h
    have : m = 0 ∧ x.2 = 0 := by
      constructor
      · apply Nat.eq_of_testBit_eq; intro j
        have := congrArg (fun m => Nat.testBit m j) h1
        simp only [Nat.testBit_or, Nat.zero_testBit, Bool.or_eq_false_iff] at this
        simp [this.1]
      · apply Nat.eq_of_testBit_eq; intro j
        have := congrArg (fun m => Nat.testBit m j) h1
        simp only [Nat.testBit_or, Nat.zero_testBit, Bool.or_eq_false_iff] at this
        simp [this.2]
    refine ⟨this.1, fun i y e => ?_⟩
    cases i with
    | zero => simp only [List.getElem?_cons_zero, Option.some.injEq] at e; subst e; exact this.2
    | succ i => exact h2 i y (by simpa using e)
theorem drawOk_spec {pl fs : List (Nat × Nat)} (h : drawOk pl fs = true) {i j : Nat} (hp : (j, i) ∈ pl) {a b : Nat × Nat} (ha : fs[j]? = some a) (hb : fs[i]? = some b) (x : Nat) :
    (a.2.testBit x = true → b.1.testBit x = false ∧ b.2.testBit x = false) ∧ (b.2.testBit x = true → a.1.testBit x = false) := by
  simp only [drawOk, Bool.or_eq_true, beq_eq, decide_eq_true_eq, List.all_eq_true] at h
  rcases h with h | h
  · have h1 := (fold_wr fs 0 h).2
    have e1 := h1 j a ha
    have e2 := h1 i b hb
    rw [e1, e2]
    simp
  · have := h (j, i) hp
    simp only [nth_eq, ha, hb] at this
    exact calm_spec this x

section
variable {P : Program} {gl : Nat} {ev : OpEv} {ops : Array Oper}

theorem wf_zeroB {h : AH} (w : WF h) : WF (zeroB h) := ⟨w.dom, fun id e => by simp [zeroB] at e⟩
theorem drawOps_spec (hs : OpSound P gl ev) : ∀ (k i : Nat) (f : Fr) (h : AH) (f' : Fr) (h' : AH) (l : List (Nat × Nat)), drawOps ev ops k i f h = some (f', h', l) → WF h →
    ∃ (Fs : Nat → Fr) (Hs Ps : Nat → AH), Fs i = f ∧ Hs i = h ∧ Fs (i + k) = f' ∧ Hs (i + k) = h' ∧
      ∀ j, i ≤ j → j < i + k → stepOp ev ops j (Fs j) (zeroB (Hs j)) = some (Fs (j + 1), Ps j) ∧ Hs (j + 1) = orB (Hs j) (Ps j) ∧ l[j - i]? = some (footOf (Hs j) (Ps j)) ∧ WF (Hs j) ∧ Ext (zeroB (Hs j)) (Ps j) ∧ WF (Ps j) ∧ (Fs (j + 1)).n = (Fs j).n
  | 0, i, f, h, f', h', l, e, wf => by
    cases e
    exact ⟨fun _ => f, fun _ => h, fun _ => h, rfl, rfl, rfl, rfl, fun j a b => by omega⟩
  | k + 1, i, f, h, f', h', l, e, wf => by
    simp only [drawOps] at e
    split at e
    · rename_i f1 h1 hst
      obtain ⟨x1, wf1, hn1⟩ := stepOp_ext hs hst (wf_zeroB wf)
      have wfo : WF (orB h h1) := ⟨wf1.dom, fun id he => by
        simp only [orB, Nat.testBit_or, Bool.or_eq_true] at he
        rcases he with he | he
        · exact Nat.lt_of_lt_of_le (wf.wr id he) x1.n
        · exact wf1.wr id he⟩
      split at e
      · rename_i f2 h2 l2 hd
        cases e
        obtain ⟨Fs, Hs, Ps, a1, a2, a3, a4, a5⟩ := drawOps_spec hs k (i + 1) f1 _ _ _ _ hd wfo
        refine ⟨fun j => if j = i then f else Fs j, fun j => if j = i then h else Hs j, fun j => if j = i then h1 else Ps j, by simp, by simp, ?_, ?_, fun j hj hj' => ?_⟩
        · dsimp only; rw [if_neg (by omega), ← a3]; congr 1; omega
        · dsimp only; rw [if_neg (by omega), ← a4]; congr 1; omega
        · dsimp only
          by_cases he : j = i
          · subst he
            simp only [if_true]
            rw [if_neg (by omega), if_neg (by omega), a1, a2]
            exact ⟨hst, rfl, by simp, wf, x1, wf1, hn1⟩
          · rw [if_neg he, if_neg he, if_neg he, if_neg (by omega), if_neg (by omega)]
            obtain ⟨b1, b2, b3, b4⟩ := a5 j (by omega) (by omega)
            refine ⟨b1, b2, ?_, b4⟩
            have : j - i = (j - (i + 1)) + 1 := by omega
            rw [this]
            simpa using b3
      · cases e
    · cases e

/-- How many are left. -/
def left (listed : Array Bool) (n : Nat) : Nat := ((List.range n).filter fun i => !listed.getD i true).length
theorem filter_lt {α : Type} (p q : α → Bool) : ∀ (l : List α), (∀ x ∈ l, p x = true → q x = true) → (∃ x ∈ l, q x = true ∧ p x = false) → (l.filter p).length < (l.filter q).length
  | [], _, h => by obtain ⟨x, hx, _⟩ := h; simp at hx
  | y :: l, hpq, h => by
    have le : (l.filter p).length ≤ (l.filter q).length := by
      have : ∀ l : List α, (∀ x ∈ l, p x = true → q x = true) → (l.filter p).length ≤ (l.filter q).length := by
        intro l
        induction l with
        | nil => intro _; simp
        | cons z l ih =>
          intro hz
          have := ih fun x hx => hz x (by simp [hx])
          have hzz := hz z (by simp)
          simp only [List.filter_cons]
          cases hp : p z <;> cases hq : q z <;> simp <;> first | omega | (rw [hp, hq] at hzz; simp at hzz)
      exact this l fun x hx => hpq x (by simp [hx])
    have hy := hpq y (by simp)
    simp only [List.filter_cons]
    obtain ⟨x, hx, h1, h2⟩ := h
    by_cases hxy : x = y
    · subst hxy
      rw [h1, h2]
      simp; omega
    · have hxl : x ∈ l := by simpa [hxy] using hx
      have := filter_lt p q l (fun z hz => hpq z (by simp [hz])) ⟨x, hxl, h1, h2⟩
      cases hp : p y <;> cases hq : q y <;> simp <;> first | omega | (rw [hp, hq] at hy; simp at hy)
theorem left_lt {listed : Array Bool} {n i : Nat} (hi : i < n) (hl : listed.getD i true = false) : left (listed.setIfInBounds i true) n < left listed n := by
  unfold left
  refine filter_lt _ _ _ (fun x _ hx => ?_) ⟨i, by simpa using hi, by simp [hl], ?_⟩
  · by_cases he : i = x
    · subst he
      rcases Nat.lt_or_ge i listed.size with h | h
      · simp [h] at hx
      · simp [Array.getElem?_eq_none h] at hl
    · rw [getD_set_ne true he] at hx; exact hx
  · rcases Nat.lt_or_ge i listed.size with h | h
    · simp [h]
    · simp [Array.getElem?_eq_none h] at hl
end
end Go.Ev
