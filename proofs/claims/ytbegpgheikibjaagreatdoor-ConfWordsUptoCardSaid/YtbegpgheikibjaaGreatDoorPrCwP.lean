/- options: a line's words and a word as it is written, in plain Lean. -/
import Derived.Lib.Replace
namespace Go.Proofs.Cw
open Go

def blkW (c : UInt8) : Bool := c == 32 || c == 9 || c == 13

/-- Behind a quotation mark: the word, and what is left. -/
def quoL : List UInt8 → List UInt8 → Option (List UInt8 × List UInt8)
  | _, [] => none
  | acc, c :: r =>
    if c.toNat = 34 then (if r.head?.all blkW then some (acc, r) else none)
    else if c.toNat = 92 then
      match r with
      | [] => none
      | d :: q => if d.toNat = 34 ∨ d.toNat = 92 then quoL (acc ++ [d]) q else none
    else if c.toNat < 32 ∧ c.toNat ≠ 9 then none
    else quoL (acc ++ [c]) r

theorem quoL_end {acc r : List UInt8} {c : UInt8} (h : c.toNat = 34) : quoL acc (c :: r) = if r.head?.all blkW then some (acc, r) else none := by
  unfold quoL; rw [if_pos h]
theorem quoL_cut {acc : List UInt8} {c : UInt8} (h : c.toNat = 92) : quoL acc [c] = none := by
  unfold quoL; rw [if_neg (by omega), if_pos h]
theorem quoL_esc {acc q : List UInt8} {c d : UInt8} (h : c.toNat = 92) (hd : d.toNat = 34 ∨ d.toNat = 92) : quoL acc (c :: d :: q) = quoL (acc ++ [d]) q := by
  conv => lhs; unfold quoL
  rw [if_neg (by omega), if_pos h]
  simp only [if_pos hd]
theorem quoL_noesc {acc q : List UInt8} {c d : UInt8} (h : c.toNat = 92) (hd : ¬ (d.toNat = 34 ∨ d.toNat = 92)) : quoL acc (c :: d :: q) = none := by
  unfold quoL
  rw [if_neg (by omega), if_pos h]
  simp only [if_neg hd]
theorem quoL_bad {acc r : List UInt8} {c : UInt8} (h : c.toNat < 32 ∧ c.toNat ≠ 9) : quoL acc (c :: r) = none := by
  unfold quoL
  rw [if_neg (by omega), if_neg (by omega), if_pos h]
theorem quoL_step {acc r : List UInt8} {c : UInt8} (h1 : c.toNat ≠ 34) (h2 : c.toNat ≠ 92) (h3 : ¬ (c.toNat < 32 ∧ c.toNat ≠ 9)) : quoL acc (c :: r) = quoL (acc ++ [c]) r := by
  conv => lhs; unfold quoL
  rw [if_neg h1, if_neg h2, if_neg h3]

/-- The cases of quoL. -/
theorem quoL_spec : ∀ (n : Nat) (r acc w q : List UInt8), r.length ≤ n → quoL acc r = some (w, q) → q.length < r.length ∧ ∃ p, r = p ++ q ∧ ((10 : UInt8) ∉ p)
  | 0, r, acc, w, q, hn, h => by
    obtain rfl : r = [] := List.length_eq_zero_iff.1 (by omega)
    simp [quoL] at h
  | n + 1, [], acc, w, q, _, h => by simp [quoL] at h
  | n + 1, c :: r, acc, w, q, hn, h => by
    have hr : r.length ≤ n := by simpa using hn
    by_cases h1 : c.toNat = 34
    · rw [quoL_end h1] at h
      split at h
      · obtain ⟨rfl, rfl⟩ : acc = w ∧ r = q := by simpa using h
        exact ⟨by simp, [c], rfl, fun hm => by simp at hm; rw [← hm] at h1; exact absurd h1 (by decide)⟩
      · cases h
    by_cases h2 : c.toNat = 92
    · cases r with
      | nil => rw [quoL_cut h2] at h; cases h
      | cons d r =>
        by_cases hd : d.toNat = 34 ∨ d.toNat = 92
        · rw [quoL_esc h2 hd] at h
          obtain ⟨hl, p, rfl, hp⟩ := quoL_spec n r _ w q (by simp at hr; omega) h
          refine ⟨by simp at hl ⊢; omega, c :: d :: p, rfl, fun hm => ?_⟩
          rcases List.mem_cons.1 hm with hm | hm
          · rw [← hm] at h2; exact absurd h2 (by decide)
          rcases List.mem_cons.1 hm with hm | hm
          · rw [← hm] at hd; exact absurd hd (by decide)
          · exact hp hm
        · rw [quoL_noesc h2 hd] at h; cases h
    by_cases h3 : c.toNat < 32 ∧ c.toNat ≠ 9
    · rw [quoL_bad h3] at h; cases h
    rw [quoL_step h1 h2 h3] at h
    obtain ⟨hl, p, rfl, hp⟩ := quoL_spec n r _ w q hr h
    refine ⟨by simp at hl ⊢; omega, c :: p, rfl, fun hm => ?_⟩
    rcases List.mem_cons.1 hm with hm | hm
    · rw [← hm] at h3; exact h3 (by decide)
    · exact hp hm

/-- How long the bare word is that begins here. -/
def bareN : List UInt8 → Option Nat
  | [] => some 0
  | c :: r => if blkW c then some 0 else if c.toNat < 33 ∨ c.toNat = 34 then none else (bareN r).map (· + 1)

theorem bareN_blank {c : UInt8} {r : List UInt8} (h : blkW c = true) : bareN (c :: r) = some 0 := by unfold bareN; rw [if_pos h]
theorem bareN_bad {c : UInt8} {r : List UInt8} (h : blkW c = false) (h2 : c.toNat < 33 ∨ c.toNat = 34) : bareN (c :: r) = none := by unfold bareN; rw [if_neg (by simp [h]), if_pos h2]
theorem bareN_step {c : UInt8} {r : List UInt8} (h : blkW c = false) (h2 : ¬ (c.toNat < 33 ∨ c.toNat = 34)) : bareN (c :: r) = (bareN r).map (· + 1) := by
  conv => lhs; unfold bareN
  rw [if_neg (by simp [h]), if_neg h2]

theorem bareN_spec : ∀ (r : List UInt8) (n : Nat), bareN r = some n → n ≤ r.length ∧ (10 : UInt8) ∉ r.take n
  | [], n, h => by simp [bareN] at h; subst h; simp
  | c :: r, n, h => by
    by_cases h1 : blkW c = true
    · rw [bareN_blank h1] at h; cases h; simp
    by_cases h2 : c.toNat < 33 ∨ c.toNat = 34
    · rw [bareN_bad (by simpa using h1) h2] at h; cases h
    rw [bareN_step (by simpa using h1) h2] at h
    cases hb : bareN r with
    | none => rw [hb] at h; cases h
    | some k =>
      rw [hb] at h
      obtain rfl : k + 1 = n := by simpa using h
      obtain ⟨hk, hm⟩ := bareN_spec r k hb
      refine ⟨by simp; omega, fun hc => ?_⟩
      rw [List.take_succ_cons] at hc
      rcases List.mem_cons.1 hc with hc | hc
      · rw [← hc] at h2; exact h2 (by decide)
      · exact hm hc
theorem bareN_pos {c : UInt8} {r : List UInt8} {n : Nat} (h : bareN (c :: r) = some n) (hb : blkW c = false) : 1 ≤ n := by
  by_cases h2 : c.toNat < 33 ∨ c.toNat = 34
  · rw [bareN_bad hb h2] at h; cases h
  · rw [bareN_step hb h2] at h
    cases hk : bareN r with
    | none => rw [hk] at h; cases h
    | some k => rw [hk] at h; have : k + 1 = n := by simpa using h
                omega

/-- The words of a line without a byte 10. -/
def wordsL : Nat → List (List UInt8) → List UInt8 → Option (List (List UInt8))
  | 0, _, _ => none
  | _ + 1, acc, [] => some acc
  | k + 1, acc, c :: r =>
    if blkW c then wordsL k acc r
    else if c.toNat = 35 then some acc
    else if c.toNat = 34 then
      match quoL [] r with
      | none => none
      | some (w, q) => wordsL k (acc ++ [w]) q
    else
      match bareN (c :: r) with
      | none => none
      | some n => wordsL k (acc ++ [(c :: r).take n]) ((c :: r).drop n)
/-- .. as the document reads it. -/
def refL : Nat → List (List UInt8) → List UInt8 → Option (List (List UInt8))
  | 0, _, _ => none
  | _ + 1, acc, [] => some acc
  | k + 1, acc, c :: r =>
    if c.toNat = 10 then none
    else if blkW c then refL k acc r
    else if c.toNat = 35 then (if (10 : UInt8) ∈ r then none else some acc)
    else if c.toNat = 34 then
      match quoL [] r with
      | none => none
      | some (w, q) => refL k (acc ++ [w]) q
    else
      match bareN (c :: r) with
      | none => none
      | some n => refL k (acc ++ [(c :: r).take n]) ((c :: r).drop n)

theorem ten_of {c : UInt8} (h : c.toNat = 10) : c = 10 := UInt8.toNat_inj.1 (by rw [h]; rfl)
theorem refL_clean : ∀ (k : Nat) (acc : List (List UInt8)) (l : List UInt8), (10 : UInt8) ∉ l → refL k acc l = wordsL k acc l
  | 0, _, _, _ => rfl
  | k + 1, acc, [], _ => rfl
  | k + 1, acc, c :: r, h => by
    have hc : c.toNat ≠ 10 := fun e => h (by rw [ten_of e]; exact List.mem_cons_self ..)
    have hr : (10 : UInt8) ∉ r := fun e => h (List.mem_cons_of_mem _ e)
    unfold refL wordsL
    rw [if_neg hc, if_neg hr, refL_clean k acc r hr]
    cases hq : quoL [] r with
    | none =>
      cases hb : bareN (c :: r) with
      | none => rfl
      | some n => simp only [refL_clean k _ ((c :: r).drop n) (fun e => h (List.mem_of_mem_drop e))]
    | some wq =>
      obtain ⟨w, q⟩ := wq
      obtain ⟨_, p, hp, _⟩ := quoL_spec r.length r [] w q (Nat.le_refl _) hq
      have hq' : (10 : UInt8) ∉ q := fun e => hr (by rw [hp]; exact List.mem_append_right _ e)
      simp only [refL_clean k (acc ++ [w]) q hq']
      cases hb : bareN (c :: r) with
      | none => rfl
      | some n => simp only [refL_clean k _ ((c :: r).drop n) (fun e => h (List.mem_of_mem_drop e))]
theorem refL_ten : ∀ (k : Nat) (acc : List (List UInt8)) (l : List UInt8), (10 : UInt8) ∈ l → refL k acc l = none
  | 0, _, _, _ => rfl
  | k + 1, acc, [], h => by cases h
  | k + 1, acc, c :: r, h => by
    unfold refL
    by_cases hc : c.toNat = 10
    · rw [if_pos hc]
    have hr : (10 : UInt8) ∈ r := by
      rcases List.mem_cons.1 h with e | e
      · rw [← e] at hc; exact absurd rfl hc
      · exact e
    rw [if_neg hc, if_pos hr, refL_ten k acc r hr]
    by_cases h1 : blkW c = true
    · rw [if_pos h1]
    rw [if_neg h1]
    by_cases h2 : c.toNat = 35
    · rw [if_pos h2]
    rw [if_neg h2]
    by_cases h3 : c.toNat = 34
    · rw [if_pos h3]
      cases hq : quoL [] r with
      | none => rfl
      | some wq =>
        obtain ⟨w, q⟩ := wq
        obtain ⟨_, p, hp, hp2⟩ := quoL_spec r.length r [] w q (Nat.le_refl _) hq
        have hq' : (10 : UInt8) ∈ q := by
          rw [hp] at hr
          exact (List.mem_append.1 hr).resolve_left hp2
        simp only [refL_ten k (acc ++ [w]) q hq']
    · rw [if_neg h3]
      cases hb : bareN (c :: r) with
      | none => rfl
      | some n =>
        obtain ⟨_, hm⟩ := bareN_spec _ _ hb
        have hd : (10 : UInt8) ∈ (c :: r).drop n := by
          rw [← List.take_append_drop n (c :: r)] at h
          exact (List.mem_append.1 h).resolve_left hm
        simp only [refL_ten k _ _ hd]

/-- What both answer. -/
def wordsR (l : List UInt8) : Option (List (List UInt8)) := if 1024 < l.length then none else refL (l.length + 1) [] l
theorem wordsR_long {l : List UInt8} (h : 1024 < l.length) : wordsR l = none := by unfold wordsR; rw [if_pos h]
theorem wordsR_short {l : List UInt8} (h : ¬ 1024 < l.length) : wordsR l = refL (l.length + 1) [] l := by unfold wordsR; rw [if_neg h]
theorem wordsR_ten {l : List UInt8} (h : (10 : UInt8) ∈ l) : wordsR l = none := by
  unfold wordsR; split
  · rfl
  · exact refL_ten _ _ _ h
theorem wordsR_clean {l : List UInt8} (h : ¬ 1024 < l.length) (h2 : (10 : UInt8) ∉ l) : wordsR l = wordsL (l.length + 1) [] l := by
  rw [wordsR_short h, refL_clean _ _ _ h2]

/-! ### a word as it is written -/

/-- A byte that stands in no word. -/
def ctl (c : UInt8) : Bool := decide (c.toNat < 32) && c != 9
def plainC (c : UInt8) : Bool := decide (32 < c.toNat) && c != 34
def escL (l : List UInt8) : List UInt8 := l.flatMap fun c => if c.toNat = 34 ∨ c.toNat = 92 then [92, c] else [c]
def bareQ (l : List UInt8) : Bool := !l.isEmpty && l.headD 0 != 35 && l.all plainC
/-- What Quote answers: the word, and the error's number. -/
def quoteR (l : List UInt8) : List UInt8 × Int := if l.any ctl then ([], 3) else if bareQ l then (l, 0) else ([34] ++ escL l ++ [34], 0)

theorem quoteR_bad {l : List UInt8} (h : l.any ctl = true) : quoteR l = ([], 3) := by unfold quoteR; rw [if_pos h]
theorem quoteR_bare {l : List UInt8} (h : l.any ctl = false) (h2 : bareQ l = true) : quoteR l = (l, 0) := by unfold quoteR; rw [if_neg (by simp [h]), if_pos h2]
theorem quoteR_in {l : List UInt8} (h : l.any ctl = false) (h2 : bareQ l = false) : quoteR l = ([34] ++ escL l ++ [34], 0) := by unfold quoteR; rw [if_neg (by simp [h]), if_neg (by simp [h2])]

theorem replace_one (a : UInt8) (new : List UInt8) (hn : [a] ≠ new) : ∀ s : List UInt8, Lib.replaceAll s [a] new = s.flatMap fun c => if c = a then new else [c] := by
  have key : ∀ s : List UInt8, Lib.replaceK [a] new (Lib.count s [a]) s = s.flatMap fun c => if c = a then new else [c] := by
    intro s
    rw [Lib.count_one]
    have gen : ∀ (s : List UInt8), Lib.replaceK [a] new (s.count a) s = s.flatMap fun c => if c = a then new else [c] := by
      intro s
      induction s with
      | nil => rfl
      | cons c s ih =>
        by_cases hc : c = a
        · subst hc
          rw [List.count_cons_self, Lib.replaceK_hit [c] new _ _ 0 (by unfold Lib.index; simp)]
          simp [ih]
        · have hcount : (c :: s).count a = s.count a := by rw [List.count_cons]; simp [hc]
          rw [hcount]
          cases hk : s.count a with
          | zero =>
            rw [hk] at ih
            simp only [Lib.replaceK] at ih ⊢
            rw [List.flatMap_cons, ← ih, if_neg hc]; rfl
          | succ k =>
            obtain ⟨i, hi⟩ := Lib.index_of_count (s := s) (old := [a]) (by rw [Lib.count_one]; omega)
            have hi2 : Lib.index (c :: s) [a] = ((i + 1 : Nat) : Int) := by
              have hp : ([a].isPrefixOf (c :: s)) = false := by simp [List.isPrefixOf, Ne.symm hc]
              have hm : (Lib.index s [a] == -1) = false := by rw [hi]; simp
              conv => lhs; unfold Lib.index
              rw [hp, hm, hi]; simp
            rw [hk, Lib.replaceK_hit _ _ _ _ i hi] at ih
            rw [Lib.replaceK_hit _ _ _ _ (i + 1) hi2]
            rw [List.flatMap_cons, ← ih, if_neg hc]
            simp
    exact gen s
  intro s
  unfold Lib.replaceAll Lib.replace
  rw [if_neg (by simpa using hn)]
  have : Lib.replaceNum s [a] (-1) = Lib.count s [a] := by unfold Lib.replaceNum; rw [if_pos (.inl (by decide))]
  rw [this]; exact key s

theorem escL_twice (s : List UInt8) : Lib.replaceAll (Lib.replaceAll s [92] [92, 92]) [34] [92, 34] = escL s := by
  rw [replace_one 92 [92, 92] (by decide), replace_one 34 [92, 34] (by decide)]
  unfold escL
  rw [List.flatMap_assoc]
  congr 1
  funext c
  by_cases h1 : c = 92
  · subst h1; rfl
  · by_cases h2 : c = 34
    · subst h2; rfl
    · have e1 : c.toNat ≠ 92 := fun e => h1 (UInt8.toNat_inj.1 (by rw [e]; rfl))
      have e2 : c.toNat ≠ 34 := fun e => h2 (UInt8.toNat_inj.1 (by rw [e]; rfl))
      simp [h1, h2, e1, e2]
theorem escL_len (s : List UInt8) : (escL s).length ≤ 2 * s.length := by
  induction s with
  | nil => simp [escL]
  | cons c s ih =>
    have h : (escL (c :: s)).length = (if c.toNat = 34 ∨ c.toNat = 92 then ([92, c] : List UInt8) else [c]).length + (escL s).length := by simp [escL]
    rw [h]; split <;> simp <;> omega

theorem quoL_escL : ∀ (l acc : List UInt8), l.any ctl = false → quoL acc (escL l ++ [34]) = some (acc ++ l, [])
  | [], acc, _ => by
    show quoL acc [34] = _
    rw [quoL_end rfl]; simp
  | c :: l, acc, h => by
    have hc : ctl c = false := by simp at h; simpa using h.1
    have hl : l.any ctl = false := by rw [List.any_cons] at h; simp only [Bool.or_eq_false_iff] at h; exact h.2
    have e : escL (c :: l) = (if c.toNat = 34 ∨ c.toNat = 92 then ([92, c] : List UInt8) else [c]) ++ escL l := by simp [escL]
    rw [e]
    by_cases h1 : c.toNat = 34 ∨ c.toNat = 92
    · rw [if_pos h1]
      show quoL acc (92 :: c :: (escL l ++ [34])) = _
      rw [quoL_esc rfl h1, quoL_escL l _ hl]; simp
    · rw [if_neg h1]
      show quoL acc (c :: (escL l ++ [34])) = _
      have h3 : ¬ (c.toNat < 32 ∧ c.toNat ≠ 9) := fun ⟨a, b⟩ => by
        unfold ctl at hc
        have : c ≠ 9 := fun e => b (by rw [e]; rfl)
        simp [a, this] at hc
      rw [quoL_step (fun e => h1 (.inl e)) (fun e => h1 (.inr e)) h3, quoL_escL l _ hl]; simp
theorem bareN_plain : ∀ l : List UInt8, l.all plainC = true → bareN l = some l.length
  | [], _ => rfl
  | c :: l, h => by
    rw [List.all_cons] at h
    simp only [Bool.and_eq_true] at h
    have h1 : 32 < c.toNat ∧ c ≠ 34 := by have := h.1; unfold plainC at this; simpa using this
    have hb : blkW c = false := by
      unfold blkW
      simp only [Bool.or_eq_false_iff, beq_eq_false_iff_ne]
      exact ⟨⟨fun e => by rw [e] at h1; exact absurd h1.1 (by decide), fun e => by rw [e] at h1; exact absurd h1.1 (by decide)⟩, fun e => by rw [e] at h1; exact absurd h1.1 (by decide)⟩
    have h34 : c.toNat ≠ 34 := fun e => h1.2 (UInt8.toNat_inj.1 (by rw [e]; rfl))
    rw [bareN_step hb (by omega), bareN_plain l h.2]; simp
theorem no_ten {l : List UInt8} (h : l.any ctl = false) : (10 : UInt8) ∉ l := fun hm => by
  have : l.any ctl = true := List.any_eq_true.2 ⟨10, hm, by decide⟩
  rw [h] at this; cases this
theorem escL_ten {l : List UInt8} (h : l.any ctl = false) : (10 : UInt8) ∉ [34] ++ escL l ++ [34] := fun hm => by
  simp only [List.mem_append, List.mem_singleton] at hm
  rcases hm with (hm | hm) | hm
  · exact absurd hm (by decide)
  · unfold escL at hm
    obtain ⟨c, hc, hx⟩ := List.mem_flatMap.1 hm
    split at hx
    · rcases List.mem_cons.1 hx with hx | hx
      · exact absurd hx (by decide)
      · simp at hx; rw [← hx] at hc; exact no_ten h hc
    · simp at hx; rw [← hx] at hc; exact no_ten h hc
  · exact absurd hm (by decide)

/-- A word that is written is read as it was. -/
theorem words_quote {t : List UInt8} (h0 : (quoteR t).2 = 0) (hlen : (quoteR t).1.length ≤ 1024) : wordsR (quoteR t).1 = some [t] := by
  by_cases hc : t.any ctl = true
  · rw [quoteR_bad hc] at h0; exact absurd h0 (by decide)
  have hc : t.any ctl = false := by simpa using hc
  by_cases hb : bareQ t = true
  · rw [quoteR_bare hc hb] at hlen ⊢
    dsimp only at hlen ⊢
    rw [wordsR_clean (by omega) (no_ten hc)]
    unfold bareQ at hb
    simp only [Bool.and_eq_true] at hb
    obtain ⟨⟨h1, h2⟩, h3⟩ := hb
    cases t with
    | nil => simp at h1
    | cons c r =>
      have hn := bareN_plain _ h3
      have h35 : c ≠ 35 := by simpa using h2
      have hcp : 32 < c.toNat ∧ c ≠ 34 := by
        have := List.all_eq_true.1 h3 c (List.mem_cons_self ..)
        unfold plainC at this; simpa using this
      have hb : blkW c = false := by
        unfold blkW
        simp only [Bool.or_eq_false_iff, beq_eq_false_iff_ne]
        exact ⟨⟨fun e => by rw [e] at hcp; exact absurd hcp.1 (by decide), fun e => by rw [e] at hcp; exact absurd hcp.1 (by decide)⟩, fun e => by rw [e] at hcp; exact absurd hcp.1 (by decide)⟩
      have e35 : c.toNat ≠ 35 := fun e => h35 (UInt8.toNat_inj.1 (by rw [e]; rfl))
      have e34 : c.toNat ≠ 34 := fun e => hcp.2 (UInt8.toNat_inj.1 (by rw [e]; rfl))
      show wordsL ((c :: r).length + 1) [] (c :: r) = _
      unfold wordsL
      rw [if_neg (by simp [hb]), if_neg e35, if_neg e34, hn]
      simp [wordsL]
  · have hb : bareQ t = false := by simpa using hb
    rw [quoteR_in hc hb] at hlen ⊢
    dsimp only at hlen ⊢
    rw [wordsR_clean (by omega) (escL_ten hc)]
    show wordsL (([34] ++ escL t ++ [34] : List UInt8).length + 1) [] (34 :: (escL t ++ [34])) = _
    unfold wordsL
    rw [if_neg (by decide), if_neg (by decide), if_pos (by decide), quoL_escL t [] hc]
    have : ∃ k, ([34] ++ escL t ++ [34] : List UInt8).length = k + 1 := ⟨(escL t).length + 1, by simp⟩
    obtain ⟨k, hk⟩ := this
    rw [hk]
    simp [wordsL]
end Go.Proofs.Cw
