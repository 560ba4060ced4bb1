/- Regions whose order is open: any order comes to the same. Holds for every program. -/
import Derived.Test.YtnfijnioclcnmaaDoorEvRegion
namespace Go.Ev
open Go

/-! ### what a set of done operations has made of each place -/

open Classical in
noncomputable def st {β : Type} (g0 : Nat → β) (W : Nat → Nat → Prop) (c : Nat → Nat → β) (S : Nat → Bool) : Nat → Nat → β
  | 0, x => g0 x
  | k + 1, x => if S k = true ∧ W k x then c k x else st g0 W c S k x
section
variable {β : Type} {g0 : Nat → β} {W : Nat → Nat → Prop} {c : Nat → Nat → β}
theorem st_none {S : Nat → Bool} {x : Nat} : ∀ n, (∀ j, j < n → S j = true → ¬ W j x) → st g0 W c S n x = g0 x
  | 0, _ => rfl
  | n + 1, h => by
    simp only [st]
    rw [if_neg (fun e => h n (by omega) e.1 e.2)]
    exact st_none n fun j hj => h j (by omega)
theorem st_below {S : Nat → Bool} {x : Nat} : ∀ i, (∀ j, j < i → S j = false → ¬ W j x) → st g0 W c S i x = st g0 W c (fun _ => true) i x
  | 0, _ => rfl
  | i + 1, h => by
    simp only [st]
    have ih := st_below i fun j hj => h j (by omega)
    by_cases hw : W i x
    · cases hs : S i with
      | false => exact absurd hw (h i (by omega) hs)
      | true => simp [hw]
    · simp [hw, ih]
theorem st_A {S : Nat → Bool} {i x : Nat} (hS : S i = false) (h1 : ∀ j, j < i → S j = false → ¬ W j x) : ∀ n, i ≤ n → (∀ j, i < j → j < n → S j = true → ¬ W j x) → st g0 W c S n x = st g0 W c (fun _ => true) i x
  | 0, hi, _ => by obtain rfl : i = 0 := by omega
                   rfl
  | n + 1, hi, h2 => by
    by_cases he : i = n + 1
    · subst he; exact st_below _ h1
    · simp only [st]
      rw [if_neg, st_A hS h1 n (by omega) fun j a b => h2 j a (by omega)]
      rintro ⟨a, b⟩
      by_cases hin : i = n
      · subst hin; rw [hS] at a; cases a
      · exact h2 n (by omega) (by omega) a b
open Classical in
theorem st_B {S : Nat → Bool} {i x : Nat} (hS : S i = false) : ∀ n, i < n → (∀ j, i < j → j < n → S j = true → W i x → ¬ W j x) →
    st g0 W c (fun j => if j = i then true else S j) n x = if W i x then c i x else st g0 W c S n x
  | 0, hi, _ => by omega
  | n + 1, hi, h => by
    have low : ∀ k, k ≤ i → st g0 W c (fun j => if j = i then true else S j) k x = st g0 W c S k x := by
      intro k
      induction k with
      | zero => intro _; rfl
      | succ k ih =>
        intro hk
        have e : (if k = i then true else S k) = S k := if_neg (by omega)
        simp only [st, e, ih (by omega)]
    by_cases hin : n = i
    · subst hin
      simp only [st, low n (Nat.le_refl _), hS]
      simp
    · have e : (if n = i then true else S n) = S n := if_neg hin
      simp only [st, e, st_B hS n (by omega) fun j a b => h j a (by omega)]
      by_cases hw : W i x
      · rw [if_pos hw, if_pos hw, if_neg]
        rintro ⟨a, b⟩
        exact h n (by omega) (by omega) a hw b
      · rw [if_neg hw, if_neg hw]
end

/-! ### the plan of a region -/

def bindsOn (o : Oper) : List Nat := (o.after.toList.filter (fun e => Region.binds .any e)).map (·.on)
/-- For each operation the mask of those that come ahead of it. -/
def ancs : List Oper → List Nat → List Nat
  | [], acc => acc
  | o :: l, acc => ancs l (acc ++ [(bindsOn o).foldl (fun m j => m ||| (1 <<< j) ||| (nth acc j).getD 0) 0])
def topo : List Oper → Nat → Bool
  | [], _ => true
  | o :: l, i => ((bindsOn o).all fun j => Nat.blt j i) && topo l (i + 1)
def pairsAt (ops : Array Oper) (oi : Oper) (i m : Nat) : Nat → Option (List (Nat × Nat))
  | 0 => some []
  | j + 1 =>
    match pairsAt ops oi i m j with
    | none => none
    | some l => cond (m.testBit j) (some l) (match ops[j]? with
        | some oj => cond (oj.apart ops oi) (some ((j, i) :: l)) none
        | none => none)
def pairsAll (ops : Array Oper) (an : List Nat) : Nat → Option (List (Nat × Nat))
  | 0 => some []
  | i + 1 =>
    match pairsAll ops an i, ops[i]?, nth an i with
    | some l, some oi, some m => match pairsAt ops oi i m i with
      | some l' => some (l' ++ l)
      | none => none
    | _, _, _ => none
def regionPlan (ops : Array Oper) : Option (List (Nat × Nat)) :=
  cond (topo ops.toList 0) (pairsAll ops (ancs ops.toList []) ops.size) none

theorem topo_spec : ∀ (l : List Oper) (i : Nat), topo l i = true → ∀ (k : Nat) (o : Oper), l[k]? = some o → ∀ j ∈ bindsOn o, j < i + k
  | [], _, _, k, o, h, j, hj => by simp at h
  | o :: l, i, h, 0, o', h', j, hj => by
    simp only [topo, Bool.and_eq_true, List.all_eq_true] at h
    simp only [List.getElem?_cons_zero, Option.some.injEq] at h'
    subst h'
    have := blt_lt (h.1 j hj)
    omega
  | o :: l, i, h, k + 1, o', h', j, hj => by
    simp only [topo, Bool.and_eq_true] at h
    have := topo_spec l (i + 1) h.2 k o' (by simpa using h') j hj
    omega
theorem fold_bits (acc : List Nat) : ∀ (l : List Nat) (m x : Nat), (l.foldl (fun m j => m ||| (1 <<< j) ||| (nth acc j).getD 0) m).testBit x = true →
    m.testBit x = true ∨ x ∈ l ∨ ∃ d ∈ l, ((nth acc d).getD 0).testBit x = true
  | [], m, x, h => .inl h
  | d :: l, m, x, h => by
    rcases fold_bits acc l _ x h with h | h | ⟨e, he, h⟩
    · simp only [Nat.testBit_or, Nat.one_shiftLeft, Nat.testBit_two_pow, Bool.or_eq_true, decide_eq_true_eq] at h
      rcases h with (h | h) | h
      · exact .inl h
      · exact .inr (.inl (by simp [h]))
      · exact .inr (.inr ⟨d, by simp, h⟩)
    · exact .inr (.inl (by simp [h]))
    · exact .inr (.inr ⟨e, by simp [he], h⟩)
theorem ancs_keeps : ∀ (l : List Oper) (acc : List Nat) (k : Nat), k < acc.length → (ancs l acc)[k]? = acc[k]?
  | [], acc, k, h => rfl
  | o :: l, acc, k, h => by
    simp only [ancs]
    rw [ancs_keeps l _ k (by simp; omega), List.getElem?_append_left h]
theorem ancs_spec : ∀ (l : List Oper) (acc : List Nat) (k : Nat) (o : Oper) (m : Nat), l[k]? = some o → (∀ (k : Nat) (o : Oper), l[k]? = some o → ∀ j ∈ bindsOn o, j < acc.length + k) → (ancs l acc)[acc.length + k]? = some m →
    ∀ x, m.testBit x = true → x ∈ bindsOn o ∨ ∃ d ∈ bindsOn o, ∃ m', (ancs l acc)[d]? = some m' ∧ m'.testBit x = true
  | [], acc, k, o, m, h, _, _ => by simp at h
  | o :: l, acc, 0, o', m, h, hb, hm => by
    intro x hx
    simp only [List.getElem?_cons_zero, Option.some.injEq] at h
    subst h
    simp only [ancs, Nat.add_zero] at hm ⊢
    rw [ancs_keeps l _ acc.length (by simp)] at hm
    simp only [List.getElem?_concat_length, Option.some.injEq] at hm
    subst hm
    rcases fold_bits acc _ _ x hx with h | h | ⟨d, hd, h⟩
    · simp at h
    · exact .inl h
    · refine .inr ⟨d, hd, ?_⟩
      have hlt := hb 0 o rfl d hd
      rw [ancs_keeps l _ d (by simp; omega), List.getElem?_append_left (by omega)]
      rw [nth_eq] at h
      cases hq : acc[d]? with
      | none => rw [hq] at h; simp at h
      | some m' => rw [hq] at h; exact ⟨m', rfl, h⟩
  | o :: l, acc, k + 1, o', m, h, hb, hm => by
    intro x hx
    simp only [ancs] at hm ⊢
    have := ancs_spec l (acc ++ [(bindsOn o).foldl (fun m j => m ||| (1 <<< j) ||| (nth acc j).getD 0) 0]) k o' m (by simpa using h)
      (fun k' o'' h' j hj => by have := hb (k' + 1) o'' (by simpa using h') j hj; simp; omega) (by
        rw [← hm]; congr 1; simp; omega) x hx
    exact this
theorem pairsAt_spec {ops : Array Oper} {oi : Oper} {i m : Nat} : ∀ (n : Nat) (l : List (Nat × Nat)), pairsAt ops oi i m n = some l → ∀ j, j < n → m.testBit j = false → (j, i) ∈ l ∧ ∃ oj, ops[j]? = some oj ∧ oj.apart ops oi = true
  | 0, l, h, j, hj, _ => by omega
  | n + 1, l, h, j, hj, hm => by
    simp only [pairsAt] at h
    split at h
    · cases h
    · rename_i l0 h0
      cases hb : m.testBit n with
      | true =>
        rw [hb] at h
        cases h
        have : j ≠ n := fun e => by subst e; rw [hb] at hm; cases hm
        exact pairsAt_spec n _ h0 j (by omega) hm
      | false =>
        rw [hb] at h
        simp only [cond_false] at h
        split at h
        · rename_i oj hoj
          cases hap : oj.apart ops oi with
          | false => rw [hap] at h; cases h
          | true =>
            rw [hap] at h
            cases h
            by_cases he : j = n
            · subst he; exact ⟨by simp, oj, hoj, hap⟩
            · have := pairsAt_spec n _ h0 j (by omega) hm
              exact ⟨by simp [this.1], this.2⟩
        · cases h
theorem pairsAll_spec {ops : Array Oper} {an : List Nat} : ∀ (n : Nat) (l : List (Nat × Nat)), pairsAll ops an n = some l → ∀ i, i < n → ∃ oi m, ops[i]? = some oi ∧ an[i]? = some m ∧
    ∀ j, j < i → m.testBit j = false → (j, i) ∈ l ∧ ∃ oj, ops[j]? = some oj ∧ oj.apart ops oi = true
  | 0, l, h, i, hi => by omega
  | n + 1, l, h, i, hi => by
    simp only [pairsAll] at h
    split at h
    · rename_i l0 oi m h0 ho hm
      split at h
      · rename_i l' hl'
        cases h
        rw [nth_eq] at hm
        by_cases he : i = n
        · subst he
          exact ⟨oi, m, ho, hm, fun j hj hb => let ⟨a, b⟩ := pairsAt_spec _ _ hl' j hj hb; ⟨by simp [a], b⟩⟩
        · obtain ⟨oi', m', a, b, c⟩ := pairsAll_spec n _ h0 i (by omega)
          exact ⟨oi', m', a, b, fun j hj hb => let ⟨x, y⟩ := c j hj hb; ⟨by simp [x], y⟩⟩
      · cases h
    · cases h

/-- Of two operations one stands ahead of the other, or they are in the plan. -/
theorem plan_spec {ops : Array Oper} {pl : List (Nat × Nat)} (h : regionPlan ops = some pl) :
    (∀ (i : Nat) (o : Oper), ops[i]? = some o → ∀ j ∈ bindsOn o, j < i) ∧
    ∀ (S : Nat → Bool), (∀ (i : Nat) (o : Oper), ops[i]? = some o → S i = true → ∀ j ∈ bindsOn o, S j = true) →
      ∀ i j oi, j < i → ops[i]? = some oi → (S i = true ∨ ∀ d ∈ bindsOn oi, S d = true) → S j = false → (j, i) ∈ pl ∧ ∃ oj, ops[j]? = some oj ∧ oj.apart ops oi = true := by
  unfold regionPlan at h
  cases ht : topo ops.toList 0 with
  | false => rw [ht] at h; cases h
  | true =>
    rw [ht] at h
    simp only [cond_true] at h
    have htop : ∀ (i : Nat) (o : Oper), ops[i]? = some o → ∀ j ∈ bindsOn o, j < i := fun i o ho j hj => by
      have := topo_spec _ _ ht i o (by simpa using ho) j hj
      omega
    refine ⟨htop, fun S hS i j oi hji hoi hSi hSj => ?_⟩
    obtain ⟨oi', m, h1, h2, h3⟩ := pairsAll_spec _ _ h i (Array.getElem?_eq_some_iff.1 hoi).1
    rw [hoi] at h1; cases h1
    have clos : ∀ (k : Nat) (o : Oper) (m : Nat), ops[k]? = some o → (ancs ops.toList [])[k]? = some m → (∀ d ∈ bindsOn o, S d = true) → ∀ x, m.testBit x = true → S x = true := by
      intro k
      induction k using Nat.strongRecOn with
      | _ k ih =>
        intro o m ho hm hd x hx
        rcases ancs_spec ops.toList [] k o m (by simpa using ho) (fun k' o' h' j hj => by
          have := htop k' o' (by simpa using h') j hj; simpa using this) (by simpa using hm) x hx with hb | ⟨d, hdm, m', hm', hx'⟩
        · exact hd x hb
        · have hlt := htop k o ho d hdm
          obtain ⟨od, hod⟩ : ∃ od, ops[d]? = some od := ⟨_, Array.getElem?_eq_getElem (Nat.lt_trans hlt (Array.getElem?_eq_some_iff.1 ho).1)⟩
          exact ih d hlt od m' hod hm' (hS d od hod (hd d hdm)) x hx'
    refine h3 j hji ?_
    cases hb : m.testBit j with
    | false => rfl
    | true =>
      have := clos i oi m hoi h2 (by
        rcases hSi with h | h
        · exact hS i oi hoi h
        · exact h) j hb
      rw [hSj] at this; cases this
end Go.Ev
