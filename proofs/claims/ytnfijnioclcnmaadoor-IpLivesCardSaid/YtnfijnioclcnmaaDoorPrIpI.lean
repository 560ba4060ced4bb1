/- IP: a header with one changed bit is refused: the law in plain numbers. -/
import Derived.Test.YtnfijnioclcnmaaDoorPrIpH
namespace Go.Proofs.YtnfijnioclcnmaaDoor
open Go Go.RowKit Go.Ev

/-! ### sums -/

def pairS (cs : List Value) : Nat → Int
  | 0 => 0
  | k + 1 => pairS cs k + (byteAt cs (2 * k) * 256 + byteAt cs (2 * k + 1))
theorem twoV_pair (cs : List Value) (k : Nat) : twoV cs 0 (2 * (k : Int)) = byteAt cs (2 * k) * 256 + byteAt cs (2 * k + 1) := by
  unfold twoV
  have e1 : 0 + (2 * (k : Int)).toNat * 1 = 2 * k := by omega
  have e2 : 0 + (2 * (k : Int) + 1).toNat * 1 = 2 * k + 1 := by omega
  rw [e1, e2]
theorem sumK_mod (cs : List Value) : ∀ k, ∃ q : Int, pairS cs k = sumK cs 0 k + 65535 * q
  | 0 => ⟨0, by unfold pairS sumK; omega⟩
  | k + 1 => by
    obtain ⟨q, hq⟩ := sumK_mod cs k
    refine ⟨q + (sumK cs 0 k + twoV cs 0 (2 * (k : Int))) / 65536, ?_⟩
    show pairS cs k + (byteAt cs (2 * k) * 256 + byteAt cs (2 * k + 1)) = stepS (sumK cs 0 k) (twoV cs 0 (2 * (k : Int))) + _
    rw [hq, ← twoV_pair]
    unfold stepS
    omega
/-- Two rows that differ in one byte. -/
theorem pairS_turn {cs cs' : List Value} {j : Nat} {d : Int} (hj : byteAt cs' j = byteAt cs j + d) : ∀ k, (∀ i, i < 2 * k → i ≠ j → byteAt cs' i = byteAt cs i) →
    pairS cs' k - pairS cs k = if j < 2 * k then (if j % 2 = 0 then d * 256 else d) else 0
  | 0, _ => by simp [pairS]
  | k + 1, h => by
    have ih := pairS_turn hj k (fun i hi => h i (by omega))
    unfold pairS
    by_cases h1 : j < 2 * k
    · rw [if_pos h1] at ih
      rw [h (2 * k) (by omega) (by omega), h (2 * k + 1) (by omega) (by omega), if_pos (by omega)]
      omega
    · rw [if_neg h1] at ih
      by_cases h2 : j = 2 * k
      · subst h2
        rw [hj, h (2 * k + 1) (by omega) (by omega), if_pos (by omega), if_pos (by omega)]
        omega
      · by_cases h3 : j = 2 * k + 1
        · subst h3
          rw [hj, h (2 * k) (by omega) (by omega), if_pos (by omega), if_neg (by omega)]
          omega
        · rw [h (2 * k) (by omega) (by omega), h (2 * k + 1) (by omega) (by omega), if_neg (by omega)]
          omega
theorem bit_turn {b : Int} (h0 : 0 ≤ b) (h1 : b < 256) {k : Int} (k0 : 0 ≤ k) (k1 : k < 8) :
    (bxor8 b (2 ^ k.toNat) - b = 2 ^ k.toNat ∨ bxor8 b (2 ^ k.toNat) - b = -(2 ^ k.toNat)) ∧ 0 ≤ bxor8 b (2 ^ k.toNat) ∧ bxor8 b (2 ^ k.toNat) < 256 ∧ (1 : Int) ≤ 2 ^ k.toNat ∧ (2 : Int) ^ k.toNat ≤ 128 := by
  have h : ∀ x : Fin 256, ∀ q : Fin 8, (bxor8 (x.val : Int) (2 ^ q.val) - (x.val : Int) = 2 ^ q.val ∨ bxor8 (x.val : Int) (2 ^ q.val) - (x.val : Int) = -(2 ^ q.val)) ∧ 0 ≤ bxor8 (x.val : Int) (2 ^ q.val) ∧ bxor8 (x.val : Int) (2 ^ q.val) < 256 ∧ (1 : Int) ≤ 2 ^ q.val ∧ (2 : Int) ^ q.val ≤ 128 := by decide +kernel
  have := h ⟨b.toNat, by omega⟩ ⟨k.toNat, by omega⟩
  simpa [Int.toNat_of_nonneg h0] using this

/-! ### what a packet of version 4 that is read is -/

theorem v4Err_ne (t1 t2 t3 t4 t5 t6 : Bool) : v4Err t1 t2 t3 t4 t5 t6 ≠ 0 := by cases t1 <;> cases t2 <;> cases t3 <;> cases t4 <;> cases t5 <;> cases t6 <;> decide
theorem parse4 {cs : List Value} {n : Nat} (he : (parseF cs n).err = 0) (hv : (parseF cs n).ver = 4) : ¬ (n : Int) < 1 ∧ B cs 0 / 16 = 4 ∧ isBad4 cs n = false ∧ (parseF cs n).hdr = hdrV cs ∧ (parseF cs n).len = lenV cs := by
  unfold parseF at he hv ⊢
  cases q1 : decide ((n : Int) < 1) with
  | true => rw [q1] at he; exact absurd (show (8 : Int) = 0 from he) (by decide)
  | false =>
  rw [q1] at he hv
  simp only [cond_false] at he hv ⊢
  cases q4 : (B cs 0 / 16 == 4) with
  | true =>
    rw [q4] at he
    simp only [cond_true] at he ⊢
    cases qb : isBad4 cs n with
    | true => rw [qb] at he; exact absurd (show bad4 cs n = 0 from he) (v4Err_ne _ _ _ _ _ _)
    | false => exact ⟨by simpa using q1, by simpa using q4, rfl, rfl, rfl⟩
  | false =>
    rw [q4] at hv
    simp only [cond_false] at hv
    cases q6 : (B cs 0 / 16 == 6) with
    | true =>
      rw [q6] at hv
      simp only [cond_true] at hv
      cases qe : (er6 cs n != 0) with
      | true => rw [qe] at hv; exact absurd (show (0 : Int) = 4 from hv) (by decide)
      | false => rw [qe] at hv; exact absurd (show (6 : Int) = 4 from hv) (by decide)
    | false => rw [q6] at hv; exact absurd (show (0 : Int) = 4 from hv) (by decide)
theorem turnJ_in {H : Int} (h : 20 ≤ H) (x : Int) : 1 ≤ turnJ H x ∧ turnJ H x < H := by
  unfold turnJ
  have h1 : -(H - 1) < x.tmod (H - 1) ∧ x.tmod (H - 1) < H - 1 := by
    rcases Int.le_total 0 x with hx | hx
    · rw [Int.tmod_eq_emod_of_nonneg hx]
      have := Int.emod_nonneg x (show H - 1 ≠ 0 by omega)
      have := Int.emod_lt_of_pos x (show 0 < H - 1 by omega)
      omega
    · have e : x = -(-x) := by omega
      rw [e, Int.neg_tmod, Int.tmod_eq_emod_of_nonneg (by omega)]
      have := Int.emod_nonneg (-x) (show H - 1 ≠ 0 by omega)
      have := Int.emod_lt_of_pos (-x) (show 0 < H - 1 by omega)
      omega
  have h2 := Int.emod_nonneg (x.tmod (H - 1) + H - 1) (show H - 1 ≠ 0 by omega)
  have h3 := Int.emod_lt_of_pos (x.tmod (H - 1) + H - 1) (show 0 < H - 1 by omega)
  rw [Int.tmod_eq_emod_of_nonneg (by omega)]
  omega
theorem turned_at {cs : List Value} {n : Nat} (hb : Bytes cs 0 n) (hl : n ≤ cs.length) {j : Nat} (hj : j < n) {y : Int} :
    nth (turned cs n j y) j = some (.int .u8 y) ∧ ∀ i, i < n → i ≠ j → nth (turned cs n j y) i = some (.int .u8 (byteAt cs i)) := by
  have e0 : 0 + j * 1 = j := by omega
  unfold turned
  rw [e0]
  have hlen := len_takeL (c := cs) (o := 0) (k := n) (by omega)
  refine ⟨?_, fun i hi hne => ?_⟩
  · rw [nth_eq, upd_eq, List.getElem?_set]
    simp [hlen, hj]
  · rw [nth_eq, upd_eq, List.getElem?_set, if_neg (Ne.symm hne)]
    have := hb.at_ i hi
    rw [Nat.zero_add, nth_eq] at this
    unfold takeL
    rw [List.getElem?_take, if_pos hi, List.drop_zero]
    exact this
theorem flat_take : ∀ {l : List Value} (n : Nat), flatL l = true → flatL (l.take n) = true
  | [], n, _ => by simp; rfl
  | v :: l, 0, _ => rfl
  | v :: l, n + 1, h => by
    have h' : (flatV v && flatL l) = true := h
    simp only [Bool.and_eq_true] at h'
    show (flatV v && flatL (l.take n)) = true
    rw [h'.1, flat_take n h'.2]; rfl
theorem flat_upd : ∀ {l : List Value} (n : Nat) {x : Value}, flatL l = true → flatV x = true → flatL (upd l n x) = true
  | [], n, _, _, _ => by cases n <;> rfl
  | v :: l, 0, x, h, hx => by
    have h' : (flatV v && flatL l) = true := h
    simp only [Bool.and_eq_true] at h'
    show (flatV x && flatL l) = true
    rw [hx, h'.2]; rfl
  | v :: l, n + 1, x, h, hx => by
    have h' : (flatV v && flatL l) = true := h
    simp only [Bool.and_eq_true] at h'
    show (flatV v && flatL (upd l n x)) = true
    rw [h'.1, flat_upd n h'.2 hx]; rfl
theorem byteAt_of {cs : List Value} {i : Nat} {y : Int} (h : nth cs i = some (.int .u8 y)) : byteAt cs i = y := by unfold byteAt; rw [h]
theorem turned_bytes {cs : List Value} {n : Nat} (hb : Bytes cs 0 n) (hl : n ≤ cs.length) {j : Nat} (hj : j < n) {y : Int} (y0 : 0 ≤ y) (y1 : y < 256) : Bytes (turned cs n j y) 0 n := by
  obtain ⟨t1, t2⟩ := turned_at hb hl hj (y := y)
  have key : ∀ i, i < n → nth (turned cs n j y) i = some (.int .u8 (byteAt (turned cs n j y) i)) ∧ 0 ≤ byteAt (turned cs n j y) i ∧ byteAt (turned cs n j y) i < 256 := fun i hi => by
    by_cases hij : i = j
    · subst hij
      rw [byteAt_of t1]; exact ⟨t1, y0, y1⟩
    · have h := t2 i hi hij
      rw [byteAt_of h]
      have h1 := hb.lo i hi; have h2 := hb.hi i hi
      rw [Nat.zero_add] at h1 h2
      exact ⟨h, h1, h2⟩
  refine ⟨?_, fun i hi => ?_, fun i hi => ?_, fun i hi => ?_, hb.small⟩
  · unfold turned takeL
    rw [List.drop_zero]
    exact flat_upd _ (flat_take n hb.flat) rfl
  · rw [Nat.zero_add]; exact (key i hi).1
  · rw [Nat.zero_add]; exact (key i hi).2.1
  · rw [Nat.zero_add]; exact (key i hi).2.2
/-- A packet with one changed bit in its header is refused. -/
theorem turned_err {cs : List Value} {n : Nat} (hb : Bytes cs 0 n) (hl : n ≤ cs.length) (he : (parseF cs n).err = 0) (hv : (parseF cs n).ver = 4) {j : Nat} (j1 : 1 ≤ j) (jH : (j : Int) < hdrV cs) {k : Int} (k0 : 0 ≤ k) (k1 : k < 8) :
    (parseF (turned cs n j (bxor8 (byteAt cs j) (2 ^ k.toNat))) n).err ≠ 0 := by
  obtain ⟨h1, hv4, hg, _, _⟩ := parse4 he hv
  have hg' := hg
  simp only [isBad4, Bool.or_eq_false_iff, decide_eq_false_iff_not] at hg
  obtain ⟨⟨⟨⟨⟨⟨g1, g2⟩, g3⟩, g4⟩, g5⟩, g6⟩, g7⟩ := hg
  have hj : j < n := by omega
  obtain ⟨_, b0, b1⟩ := bB hb j hj
  obtain ⟨hd, y0, y1, p0, p1⟩ := bit_turn (b := byteAt cs j) b0 b1 k0 k1
  obtain ⟨t1, t2⟩ := turned_at hb hl hj (y := bxor8 (byteAt cs j) (2 ^ k.toNat))
  generalize hcs : turned cs n j (bxor8 (byteAt cs j) (2 ^ k.toNat)) = cs' at t1 t2
  intro hz
  have e0 : B cs' 0 = B cs 0 := byteAt_of (t2 0 (by omega) (by omega))
  have eh : hdrV cs' = hdrV cs := by unfold hdrV; rw [e0]
  have hver : (parseF cs' n).ver = 4 := by
    unfold parseF at hz ⊢
    have q1 : decide ((n : Int) < 1) = false := by simpa using h1
    have q4 : (B cs' 0 / 16 == 4) = true := by rw [e0]; simpa using hv4
    rw [q1, q4] at hz ⊢
    simp only [cond_false, cond_true] at hz ⊢
    cases qb : isBad4 cs' n with
    | true => rw [qb] at hz; exact absurd (show bad4 cs' n = 0 from hz) (v4Err_ne _ _ _ _ _ _)
    | false => rfl
  obtain ⟨_, _, hg2, _, _⟩ := parse4 hz hver
  simp only [isBad4, Bool.or_eq_false_iff, decide_eq_false_iff_not] at hg2
  obtain ⟨⟨_, s6⟩, _⟩ := hg2
  have hH : hdrV cs = 4 * (B cs 0 % 16) := rfl
  have hs : ∀ r : List Value, hdrV r = hdrV cs → (sumH r != 0) = false → sumK r 0 ((hdrV cs).toNat / 2) = 65535 := fun r hr hh => by
    have h0 : sumH r = 0 := by simpa using hh
    unfold sumH sumV at h0
    rw [hr, if_neg (by omega)] at h0
    unfold sumOut at h0
    omega
  have a1 := hs cs rfl g6
  have a2 := hs cs' eh s6
  obtain ⟨q, hq⟩ := sumK_mod cs ((hdrV cs).toNat / 2)
  obtain ⟨q', hq'⟩ := sumK_mod cs' ((hdrV cs).toNat / 2)
  have hdiff := pairS_turn (cs := cs) (cs' := cs') (j := j) (d := bxor8 (byteAt cs j) (2 ^ k.toNat) - byteAt cs j) (by rw [byteAt_of t1]; omega) ((hdrV cs).toNat / 2) (fun i hi hne => byteAt_of (t2 i (by omega) hne))
  rw [if_pos (by omega)] at hdiff
  generalize bxor8 (byteAt cs j) (2 ^ k.toNat) - byteAt cs j = d at hd hdiff
  generalize (2 : Int) ^ k.toNat = p at hd p0 p1
  split at hdiff <;> omega
end Go.Proofs.YtnfijnioclcnmaaDoor
