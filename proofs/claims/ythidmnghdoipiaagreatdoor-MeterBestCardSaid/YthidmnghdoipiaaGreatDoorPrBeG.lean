/- Meter: the first and the last one: the plain law. -/
import Derived.Test.YthidmnghdoipiaaGreatDoorPrBeF
namespace Go.Proofs.YthidmnghdoipiaaGreatDoor
open Go Go.RowKit Go.Ev
def W64s (xs : List Nat) : Prop := ∀ x ∈ xs, x < 2 ^ 64
theorem ordF_vals (a b : Nat) (ha : a < 2 ^ 64) (hb : b < 2 ^ 64) : ∃ K : Nat → Int, ordF a b = sgn3 (K a) (K b) := by
  obtain ⟨K, h⟩ := ordKey a b b
  exact ⟨K, (h a (by simp) b (by simp) ha hb).1⟩
theorem sgn3_lt {u v : Int} : sgn3 u v < 0 ↔ u < v := by
  unfold sgn3; split
  · omega
  · split <;> omega
theorem sgn3_gt {u v : Int} : sgn3 u v > 0 ↔ v < u := by
  unfold sgn3; split
  · omega
  · split <;> omega
theorem sgn3_m {u v : Int} : sgn3 u v = -1 ↔ u < v := by
  unfold sgn3; split
  · omega
  · split <;> omega
theorem sgn3_p {u v : Int} : sgn3 u v = 1 ↔ v < u := by
  unfold sgn3; split
  · omega
  · split <;> omega
/-- Which one stands ahead, by a key. -/
theorem ahead_key (w : Bool) (a b c : Nat) (ha : a < 2 ^ 64) (hb : b < 2 ^ 64) (hc : c < 2 ^ 64) : ∃ K : Nat → Int, (∀ x ∈ [a, b, c], ∀ y ∈ [a, b, c], (aheadB w x y = true ↔ K x < K y) ∧ (K x = K y ↔ x = y ∨ nanB x = true ∧ nanB y = true)) := by
  obtain ⟨K, h⟩ := ordKey a b c
  have hw : ∀ x ∈ [a, b, c], x < 2 ^ 64 := by
    intro x hx
    simp only [List.mem_cons, List.not_mem_nil, or_false] at hx
    rcases hx with rfl | rfl | rfl <;> assumption
  cases w with
  | false =>
    refine ⟨K, fun x hx y hy => ?_⟩
    obtain ⟨h1, h2⟩ := h x hx y hy (hw x hx) (hw y hy)
    refine ⟨?_, h2⟩
    show decide (ordF x y < 0) = true ↔ _
    rw [h1, decide_eq_true_eq]
    exact sgn3_lt
  | true =>
    refine ⟨fun z => - K z, fun x hx y hy => ?_⟩
    obtain ⟨h1, h2⟩ := h x hx y hy (hw x hx) (hw y hy)
    refine ⟨?_, by rw [← h2]; show - K x = - K y ↔ _; omega⟩
    show decide (ordF x y > 0) = true ↔ _
    rw [h1, decide_eq_true_eq]
    exact sgn3_gt.trans (by show K y < K x ↔ - K x < - K y; omega)
theorem ahead_irr (w : Bool) {x : Nat} (hx : x < 2 ^ 64) : aheadB w x x = false := by
  obtain ⟨K, h⟩ := ahead_key w x x x hx hx hx
  rw [Bool.eq_false_iff, ne_eq, (h x (by simp) x (by simp)).1]
  omega
theorem ahead_drop (w : Bool) {x b y : Nat} (hx : x < 2 ^ 64) (hb : b < 2 ^ 64) (hy : y < 2 ^ 64) (h1 : aheadB w x b = true) (h2 : aheadB w y b = false) : aheadB w y x = false := by
  obtain ⟨K, h⟩ := ahead_key w x b y hx hb hy
  rw [(h x (by simp) b (by simp)).1] at h1
  rw [Bool.eq_false_iff, ne_eq, (h y (by simp) b (by simp)).1] at h2
  rw [Bool.eq_false_iff, ne_eq, (h y (by simp) x (by simp)).1]
  omega
theorem ahead_eq (w : Bool) {x y : Nat} (hx : x < 2 ^ 64) (hy : y < 2 ^ 64) (nx : nanB x = false) (h1 : aheadB w x y = false) (h2 : aheadB w y x = false) : x = y := by
  obtain ⟨K, h⟩ := ahead_key w x y y hx hy hy
  rw [Bool.eq_false_iff, ne_eq, (h x (by simp) y (by simp)).1] at h1
  rw [Bool.eq_false_iff, ne_eq, (h y (by simp) x (by simp)).1] at h2
  rcases (h x (by simp) y (by simp)).2.1 (by omega) with e | ⟨e, _⟩
  · exact e
  · rw [nx] at e; cases e
theorem ahead_ref (w : Bool) {x y : Nat} (hx : x < 2 ^ 64) (hy : y < 2 ^ 64) : (refF x y == sgnV w) = aheadB w x y := by
  rw [← ordF_ref hx hy]
  obtain ⟨K, h⟩ := ordF_vals x y hx hy
  cases w with
  | false =>
    show (ordF x y == -1) = decide (ordF x y < 0)
    rw [h, Bool.eq_iff_iff, beq_iff_eq, decide_eq_true_eq, sgn3_m, sgn3_lt]
  | true =>
    show (ordF x y == 1) = decide (ordF x y > 0)
    rw [h, Bool.eq_iff_iff, beq_iff_eq, decide_eq_true_eq, sgn3_p, sgn3_gt]

/-! ### the best of a list -/

theorem getD_app {ys zs : List Nat} {k : Nat} (h : k < ys.length) : (ys ++ zs).getD k 0 = ys.getD k 0 := by
  rw [List.getD_eq_getElem?_getD, List.getD_eq_getElem?_getD, List.getElem?_append_left h]
theorem bestK_app (w : Bool) (ys zs : List Nat) : ∀ k, k ≤ ys.length → bestK w (ys ++ zs) k = bestK w ys k
  | 0, _ => rfl
  | k + 1, h => by
    show (bif decide (k = 0) || aheadB w ((ys ++ zs).getD k 0) (bestK w (ys ++ zs) k) then (ys ++ zs).getD k 0 else bestK w (ys ++ zs) k) = _
    rw [bestK_app w ys zs k (by omega), getD_app (by omega)]
    rfl
theorem bestK_snoc (w : Bool) (ys : List Nat) (x : Nat) (h : ys ≠ []) : bestK w (ys ++ [x]) (ys ++ [x]).length = bif aheadB w x (bestK w ys ys.length) then x else bestK w ys ys.length := by
  have hl : 0 < ys.length := by cases ys with | nil => exact absurd rfl h | cons _ _ => simp
  rw [List.length_append, List.length_singleton]
  show (bif decide (ys.length = 0) || aheadB w ((ys ++ [x]).getD ys.length 0) (bestK w (ys ++ [x]) ys.length) then (ys ++ [x]).getD ys.length 0 else bestK w (ys ++ [x]) ys.length) = _
  rw [bestK_app w ys [x] _ (Nat.le_refl _), decide_eq_false (by omega), Bool.false_or]
  have e : (ys ++ [x]).getD ys.length 0 = x := by rw [List.getD_eq_getElem?_getD, List.getElem?_append_right (Nat.le_refl _)]; simp
  rw [e]
theorem bestK_one (w : Bool) (x : Nat) : bestK w [x] 1 = x := rfl
/-- It is one of them, and none stands ahead of it. -/
theorem bestK_min (w : Bool) (ys : List Nat) (hW : W64s ys) : ∀ k, k ≤ ys.length → 0 < k → bestK w ys k ∈ ys ∧ ∀ j, j < k → aheadB w (ys.getD j 0) (bestK w ys k) = false
  | 0, _, h => absurd h (Nat.lt_irrefl 0)
  | k + 1, hk, _ => by
    have hget : ∀ j, j < ys.length → ys.getD j 0 ∈ ys := fun j hj => by
      rw [List.getD_eq_getElem?_getD, List.getElem?_eq_getElem hj]; exact List.getElem_mem hj
    have hx := hget k (by omega)
    show (bif decide (k = 0) || aheadB w (ys.getD k 0) (bestK w ys k) then ys.getD k 0 else bestK w ys k) ∈ ys ∧ _
    by_cases h0 : k = 0
    · subst h0
      refine ⟨hx, fun j hj => ?_⟩
      obtain rfl : j = 0 := by omega
      exact ahead_irr w (hW _ hx)
    · obtain ⟨i1, i2⟩ := bestK_min w ys hW k (by omega) (by omega)
      have e : bestK w ys (k + 1) = bif aheadB w (ys.getD k 0) (bestK w ys k) then ys.getD k 0 else bestK w ys k := by
        show (bif decide (k = 0) || aheadB w (ys.getD k 0) (bestK w ys k) then ys.getD k 0 else bestK w ys k) = _
        rw [decide_eq_false h0, Bool.false_or]
      rw [decide_eq_false h0, Bool.false_or, e]
      cases ha : aheadB w (ys.getD k 0) (bestK w ys k) with
      | true =>
        refine ⟨hx, fun j hj => ?_⟩
        show aheadB w (ys.getD j 0) (ys.getD k 0) = false
        by_cases hjk : j = k
        · subst hjk; exact ahead_irr w (hW _ hx)
        · exact ahead_drop w (hW _ hx) (hW _ i1) (hW _ (hget j (by omega))) ha (i2 j (by omega))
      | false =>
        refine ⟨i1, fun j hj => ?_⟩
        show aheadB w (ys.getD j 0) (bestK w ys k) = false
        by_cases hjk : j = k
        · subst hjk; exact ha
        · exact i2 j (by omega)
theorem bestK_all (w : Bool) {ys : List Nat} (hW : W64s ys) (h0 : ys ≠ []) : bestK w ys ys.length ∈ ys ∧ ∀ y ∈ ys, aheadB w y (bestK w ys ys.length) = false := by
  have hl : 0 < ys.length := by cases ys with | nil => exact absurd rfl h0 | cons _ _ => simp
  obtain ⟨h1, h2⟩ := bestK_min w ys hW _ (Nat.le_refl _) hl
  refine ⟨h1, fun y hy => ?_⟩
  obtain ⟨j, hj, rfl⟩ := List.getElem_of_mem hy
  have := h2 j hj
  rwa [List.getD_eq_getElem?_getD, List.getElem?_eq_getElem hj] at this

/-! ### the reference finds the same -/

theorem numsT_mem {xs : List Nat} {n x : Nat} (h : x ∈ numsT xs n) : x ∈ xs ∧ numB x = true := by
  unfold numsT at h
  obtain ⟨h1, h2⟩ := List.mem_filter.1 h
  exact ⟨List.mem_of_mem_take h1, h2⟩
theorem numsT_w {xs : List Nat} (hW : W64s xs) (n : Nat) : W64s (numsT xs n) := fun x hx => hW x (numsT_mem hx).1
theorem rK_best (w : Bool) {xs : List Nat} (hW : W64s xs) : ∀ k, k ≤ xs.length → rK w xs k = bestR w xs k
  | 0, _ => by
    have : numsT xs 0 = [] := by unfold numsT; simp
    unfold bestR
    rw [if_pos this]
    rfl
  | k + 1, hk => by
    have ih := rK_best w hW k (by omega)
    have hn := numsT_next (xs := xs) (k := k) (by omega)
    have hg : xs.getD k 0 = xs[k] := by rw [List.getD_eq_getElem?_getD, List.getElem?_eq_getElem (by omega)]; rfl
    have hx : xs[k] < 2 ^ 64 := hW _ (List.getElem_mem _)
    show ((bif hitB (numB (xs.getD k 0)) (rK w xs k).2 (refF (xs.getD k 0) (rK w xs k).1 == sgnV w) then xs.getD k 0 else (rK w xs k).1, (rK w xs k).2 || hitB (numB (xs.getD k 0)) (rK w xs k).2 (refF (xs.getD k 0) (rK w xs k).1 == sgnV w)) : Nat × Bool) = _
    rw [hg, ih]
    cases hb : numB xs[k] with
    | false =>
      rw [hb, if_neg (by simp), List.append_nil] at hn
      unfold bestR
      rw [hn]
      simp [hitB]
    | true =>
      rw [hb, if_pos rfl] at hn
      by_cases h0 : numsT xs k = []
      · unfold bestR
        rw [hn, h0]
        simp [hitB]
        rfl
      · have hm := bestK_all w (numsT_w hW k) h0
        unfold bestR
        rw [hn, if_neg h0, if_neg (by simp), bestK_snoc w _ _ h0]
        simp only [hitB, Bool.true_and, Bool.not_true, Bool.false_or, Bool.true_or]
        rw [ahead_ref w hx (numsT_w hW k _ hm.1)]

/-! ### turned about -/

theorem numsT_rev (xs : List Nat) : numsT xs.reverse xs.length = (numsT xs xs.length).reverse := by
  unfold numsT
  rw [List.take_length, List.take_of_length_le (by simp), List.filter_reverse]
theorem numB_nan {x : Nat} (h : numB x = true) : nanB x = false := by
  unfold nanB
  unfold numB at h
  rw [beq_iff_eq] at h
  rw [h]; rfl
theorem bestR_rev (w : Bool) {xs : List Nat} (hW : W64s xs) : bestR w xs.reverse xs.length = bestR w xs xs.length := by
  unfold bestR
  rw [numsT_rev]
  by_cases h0 : numsT xs xs.length = []
  · rw [if_pos (by rw [h0]; rfl), if_pos h0]
  · have hr : (numsT xs xs.length).reverse ≠ [] := by simpa using h0
    rw [if_neg hr, if_neg h0]
    have hY := numsT_w hW xs.length
    have hY' : W64s (numsT xs xs.length).reverse := fun x hx => hY x (by simpa using hx)
    obtain ⟨a1, a2⟩ := bestK_all w hY h0
    obtain ⟨b1, b2⟩ := bestK_all w hY' hr
    have b1' := List.mem_reverse.1 b1
    have := ahead_eq w (hY' _ b1) (hY _ a1) (numB_nan (numsT_mem b1').2) (a2 _ b1') (b2 _ (by simpa using a1))
    rw [this]
theorem best_le {xs : List Nat} (hW : W64s xs) (n : Nat) (h : (bestR false xs n).2 = true) : decide (ordF (bestR false xs n).1 (bestR true xs n).1 ≤ 0) = true := by
  unfold bestR at *
  by_cases h0 : numsT xs n = []
  · rw [if_pos h0] at h; cases h
  · rw [if_neg h0, if_neg h0]
    have hY := numsT_w hW n
    obtain ⟨a1, a2⟩ := bestK_all false hY h0
    obtain ⟨b1, _⟩ := bestK_all true hY h0
    have h3 := a2 _ b1
    obtain ⟨K, hK⟩ := ordKey (bestK false (numsT xs n) (numsT xs n).length) (bestK true (numsT xs n) (numsT xs n).length) 0
    have e1 := (hK _ (by simp) _ (by simp) (hY _ b1) (hY _ a1) : ordF (bestK true (numsT xs n) (numsT xs n).length) (bestK false (numsT xs n) (numsT xs n).length) = _ ∧ _).1
    have e2 := (hK _ (by simp) _ (by simp) (hY _ a1) (hY _ b1) : ordF (bestK false (numsT xs n) (numsT xs n).length) (bestK true (numsT xs n) (numsT xs n).length) = _ ∧ _).1
    have h3' : decide (ordF (bestK true (numsT xs n) (numsT xs n).length) (bestK false (numsT xs n) (numsT xs n).length) < 0) = false := h3
    rw [decide_eq_false_iff_not, e1, sgn3_lt] at h3'
    rw [decide_eq_true_eq, e2]
    have := @sgn3_gt (K (bestK false (numsT xs n) (numsT xs n).length)) (K (bestK true (numsT xs n) (numsT xs n).length))
    omega
theorem bits_self (a : Nat) : bitsB a a = true := by unfold bitsB; simp
theorem bestR_same (w w' : Bool) (xs : List Nat) (n : Nat) : (bestR w xs n).2 = (bestR w' xs n).2 := by
  unfold bestR
  split <;> rfl
end Go.Proofs.YthidmnghdoipiaaGreatDoor
