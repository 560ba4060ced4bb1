/- secrets: blanks and a remark behind a line change nothing, in plain Lean. -/
import Derived.Test.YtnadimjglkodkaaDoorPrSrP
namespace Go.Proofs.Sr
open Go Go.Pl Go.Lib Go.Proofs.Sa
/-- Nothing, or something that ends a word. -/
def tailS (e : List UInt8) : Prop := e.head?.all stopS = true
theorem quoS_app : ∀ (n : Nat) (r acc w q e : List UInt8), r.length ≤ n → tailS e → quoS acc r = some (w, q) → quoS acc (r ++ e) = some (w, q ++ e)
  | 0, r, acc, w, q, e, hn, _, h => by
    obtain rfl : r = [] := List.length_eq_zero_iff.1 (by omega)
    simp [quoS] at h
  | n + 1, [], acc, w, q, e, _, _, h => by simp [quoS] at h
  | n + 1, c :: r, acc, w, q, e, hn, he, h => by
    have hr : r.length ≤ n := by simpa using hn
    show quoS acc (c :: (r ++ e)) = _
    by_cases h1 : c.toNat = 34
    · rw [quoS_end h1] at h ⊢
      split at h
      · rename_i hs
        obtain ⟨rfl, rfl⟩ : acc = w ∧ r = q := by simpa using h
        rw [if_pos]
        cases r with
        | nil => exact he
        | cons x r => exact hs
      · cases h
    by_cases h2 : c.toNat = 92
    · cases r with
      | nil => rw [quoS_cut h2] at h; cases h
      | cons d r =>
        by_cases hd : d.toNat = 34 ∨ d.toNat = 92
        · rw [quoS_esc h2 hd] at h
          show quoS acc (c :: d :: (r ++ e)) = _
          rw [quoS_esc h2 hd]
          exact quoS_app n r _ w q e (by simp at hr; omega) he h
        · rw [quoS_noesc h2 hd] at h; cases h
    rw [quoS_step h1 h2] at h ⊢
    exact quoS_app n r _ w q e hr he h
theorem bareS_app : ∀ (r e : List UInt8) (n : Nat), tailS e → bareS r = some n → bareS (r ++ e) = some n ∧ n ≤ r.length
  | [], e, n, he, h => by
    have : n = 0 := by simpa [bareS] using h.symm
    subst this
    cases e with
    | nil => exact ⟨rfl, Nat.le_refl _⟩
    | cons x e =>
      have hx : stopS x = true := he
      refine ⟨?_, Nat.le_refl _⟩
      show bareS (x :: e) = _
      unfold bareS
      rw [if_pos hx]
  | c :: r, e, n, he, h => by
    show bareS (c :: (r ++ e)) = _ ∧ _
    unfold bareS at h ⊢
    by_cases h1 : stopS c = true
    · rw [if_pos h1] at h ⊢
      have : n = 0 := by simpa using h.symm
      subst this; exact ⟨rfl, Nat.zero_le _⟩
    rw [if_neg h1] at h ⊢
    by_cases h2 : c.toNat = 34
    · rw [if_pos h2] at h; cases h
    rw [if_neg h2] at h ⊢
    cases hb : bareS r with
    | none => rw [hb] at h; cases h
    | some k =>
      rw [hb] at h
      obtain ⟨h3, h4⟩ := bareS_app r e k he hb
      rw [h3]
      have : k + 1 = n := by simpa using h
      exact ⟨h, by simp; omega⟩
/-- What stands behind a line. -/
def after (e : List UInt8) : Prop := e = [] ∨ e = [32] ∨ e = [9, 13] ∨ e = [32, 35, 32, 120]
theorem after_tail {e : List UInt8} (h : after e) : tailS e := by
  rcases h with rfl | rfl | rfl | rfl <;> (unfold tailS; decide)
theorem after_words {e : List UInt8} (h : after e) (k : Nat) (acc : List (List UInt8)) : wordsS (k + 5) acc e = some acc := by
  rcases h with rfl | rfl | rfl | rfl <;> rfl
theorem words_after {e : List UInt8} (he : after e) : ∀ (k : Nat) (acc : List (List UInt8)) (l : List UInt8) (ws : List (List UInt8)), wordsS k acc l = some ws → wordsS (k + 4) acc (l ++ e) = some ws
  | 0, _, _, _, h => by cases h
  | k + 1, acc, [], ws, h => by
    have : acc = ws := by simpa [wordsS] using h
    subst this
    exact after_words he k acc
  | k + 1, acc, c :: r, ws, h => by
    rw [show k + 1 + 4 = (k + 4) + 1 by omega]
    show wordsS ((k + 4) + 1) acc (c :: (r ++ e)) = _
    unfold wordsS at h ⊢
    by_cases h1 : blkS c = true
    · rw [if_pos h1] at h ⊢
      exact words_after he k acc r ws h
    rw [if_neg h1] at h ⊢
    by_cases h2 : c.toNat = 35
    · rw [if_pos h2] at h ⊢; exact h
    rw [if_neg h2] at h ⊢
    by_cases h3 : c.toNat = 34
    · rw [if_pos h3] at h ⊢
      cases hq : quoS [] r with
      | none => rw [hq] at h; cases h
      | some wq =>
        obtain ⟨w, q⟩ := wq
        rw [hq] at h
        rw [quoS_app r.length r [] w q e (Nat.le_refl _) (after_tail he) hq]
        exact words_after he k _ q ws h
    rw [if_neg h3] at h ⊢
    cases hb : bareS (c :: r) with
    | none => rw [hb] at h; cases h
    | some n =>
      rw [hb] at h
      obtain ⟨h4, h5⟩ := bareS_app (c :: r) e n (after_tail he) hb
      have h4' : bareS (c :: (r ++ e)) = some n := h4
      rw [h4']
      simp only at h ⊢
      have e1 : (c :: (r ++ e)).take n = (c :: r).take n := by
        show ((c :: r) ++ e).take n = _
        rw [List.take_append_of_le_length h5]
      have e2 : (c :: (r ++ e)).drop n = (c :: r).drop n ++ e := by
        show ((c :: r) ++ e).drop n = _
        rw [List.drop_append_of_le_length h5]
      rw [e1, e2]
      exact words_after he k _ _ ws h
theorem bareS_pos {c : UInt8} {r : List UInt8} {n : Nat} (h : bareS (c :: r) = some n) (hs : stopS c = false) : 1 ≤ n := by
  unfold bareS at h
  rw [if_neg (by simp [hs])] at h
  split at h
  · cases h
  · cases hb : bareS r with
    | none => rw [hb] at h; cases h
    | some k =>
      rw [hb] at h
      have : k + 1 = n := by simpa using h
      omega
/-- Enough rounds are enough. -/
theorem wordsS_fuel : ∀ (n k k' : Nat) (acc : List (List UInt8)) (l : List UInt8), l.length ≤ n → l.length < k → l.length < k' → wordsS k acc l = wordsS k' acc l
  | n, 0, k', acc, l, _, h, _ => absurd h (Nat.not_lt_zero _)
  | n, k + 1, 0, acc, l, _, _, h => absurd h (Nat.not_lt_zero _)
  | n, k + 1, k' + 1, acc, [], _, _, _ => rfl
  | 0, k + 1, k' + 1, acc, c :: r, h, _, _ => by simp at h
  | n + 1, k + 1, k' + 1, acc, c :: r, hn, h1, h2 => by
    simp only [List.length_cons] at hn h1 h2
    have ih := fun acc l (hl : l.length ≤ r.length) => wordsS_fuel n k k' acc l (by omega) (by omega) (by omega)
    unfold wordsS
    rw [ih acc r (Nat.le_refl _)]
    by_cases a1 : blkS c = true
    · rw [if_pos a1, if_pos a1]
    rw [if_neg a1, if_neg a1]
    by_cases a2 : c.toNat = 35
    · rw [if_pos a2, if_pos a2]
    rw [if_neg a2, if_neg a2]
    by_cases a3 : c.toNat = 34
    · rw [if_pos a3, if_pos a3]
      cases hq : quoS [] r with
      | none => rfl
      | some wq =>
        obtain ⟨w, q⟩ := wq
        have hl := quoS_lt r.length r [] w q (Nat.le_refl _) hq
        simp only [ih (acc ++ [w]) q (by omega)]
    rw [if_neg a3, if_neg a3]
    cases hb : bareS (c :: r) with
    | none => rfl
    | some m =>
      have hs : stopS c = false := by
        unfold stopS
        have : c ≠ 35 := fun e => a2 (by rw [e]; rfl)
        simp [a1, this]
      have hm := bareS_pos hb hs
      have hl : ((c :: r).drop m).length ≤ r.length := by rw [List.length_drop, List.length_cons]; omega
      simp only [ih _ _ hl]
/-- A line with blanks or a remark behind it says what it said. -/
theorem line_after {e l : List UInt8} (he : after e) (hlen : (l ++ e).length ≤ 1024) {o : Option Said} (h : lineS l = .ok o) : lineS (l ++ e) = .ok o := by
  have hl : l.length ≤ 1024 := by rw [List.length_append] at hlen; omega
  unfold lineS at h ⊢
  rw [if_neg (by omega)] at h ⊢
  cases hw : wordsS (l.length + 1) [] l with
  | none => rw [hw] at h; cases h
  | some ws =>
    have h2 := words_after he _ _ _ _ hw
    rw [wordsS_fuel (l ++ e).length (l.length + 1 + 4) ((l ++ e).length + 1) [] (l ++ e) (Nat.le_refl _) (by
      rcases he with rfl | rfl | rfl | rfl <;> simp only [List.length_append, List.length_cons, List.length_nil] <;> omega) (Nat.lt_succ_self _)] at h2
    rw [hw] at h
    rw [h2]
    exact h
/-- What lines say, if none is at fault. -/
def says : List (List UInt8) → Option (List Said)
  | [] => some []
  | s :: ls => match lineS s with
    | .error _ => none
    | .ok none => says ls
    | .ok (some x) => (says ls).map (x :: ·)
theorem parseS_says : ∀ (ls : List (List UInt8)) (i : Nat) (out r : List Said), parseS i ls out = .ok r ↔ ∃ xs, says ls = some xs ∧ r = out ++ xs
  | [], i, out, r => by
    constructor
    · intro h
      have : out = r := by simpa [parseS] using h
      exact ⟨[], rfl, by simp [this]⟩
    · rintro ⟨xs, h, rfl⟩
      have : xs = [] := by simpa [says] using h.symm
      subst this; simp [parseS]
  | s :: ls, i, out, r => by
    unfold parseS says
    cases lineS s with
    | error e =>
      constructor
      · intro h; cases h
      · rintro ⟨xs, h, _⟩; cases h
    | ok o =>
      cases o with
      | none => exact parseS_says ls (i + 1) out r
      | some x =>
        simp only
        rw [parseS_says ls (i + 1) (out ++ [x]) r]
        constructor
        · rintro ⟨xs, h, rfl⟩
          exact ⟨x :: xs, by rw [h]; rfl, by simp⟩
        · rintro ⟨xs, h, rfl⟩
          cases hs : says ls with
          | none => rw [hs] at h; cases h
          | some ys =>
            rw [hs] at h
            have : x :: ys = xs := by simpa using h
            subst this
            exact ⟨ys, rfl, by simp⟩
theorem says_cons (s : List UInt8) (ls : List (List UInt8)) : says (s :: ls) = match lineS s with
    | .error _ => none
    | .ok none => says ls
    | .ok (some x) => (says ls).map (x :: ·) := rfl
theorem says_app : ∀ (a b : List (List UInt8)), says (a ++ b) = (says a).bind fun x => (says b).map (x ++ ·)
  | [], b => by
    show says b = (says b).map ([] ++ ·)
    cases h : says b <;> simp
  | s :: a, b => by
    have ih := says_app a b
    rw [List.cons_append, says_cons, says_cons]
    cases lineS s with
    | error e => rfl
    | ok o =>
      cases o with
      | none => exact ih
      | some x =>
        simp only
        rw [ih]
        cases says a with
        | none => rfl
        | some ya => cases says b <;> simp
/-- The lines that are put between. -/
theorem quiet_lines : lineS [] = .ok none ∧ lineS [35, 32, 97, 32, 34, 114, 101, 109, 97, 114, 107] = .ok none ∧ lineS [32, 9, 13] = .ok none := ⟨rfl, rfl, rfl⟩
end Go.Proofs.Sr
