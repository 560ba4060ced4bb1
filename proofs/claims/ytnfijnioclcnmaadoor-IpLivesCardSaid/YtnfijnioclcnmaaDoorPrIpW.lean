/- IP: a packet with one less to live: what a round makes of the packet. -/
import Derived.Test.YtnfijnioclcnmaaDoorPrIpV
namespace Go.Proofs.YtnfijnioclcnmaaDoor
open Go Go.RowKit Go.Ev

/-! ### rows with one byte changed -/

theorem upd_len {l : List Value} {k : Nat} {v : Value} : (upd l k v).length = l.length := by rw [upd_eq]; simp
theorem bytes_upd {l : List Value} {n k : Nat} {y : Int} (hb : Bytes l 0 n) (hk : k < n) (y0 : 0 ≤ y) (y1 : y < 256) :
    Bytes (upd l k (.int .u8 y)) 0 n ∧ byteAt (upd l k (.int .u8 y)) k = y ∧ ∀ i, i ≠ k → byteAt (upd l k (.int .u8 y)) i = byteAt l i := by
  have hl := bytes_len hb
  have g1 : nth (upd l k (.int .u8 y)) k = some (.int .u8 y) := by
    rw [nth_eq, upd_eq, List.getElem?_set]
    simp; omega
  have g2 : ∀ i, i ≠ k → nth (upd l k (.int .u8 y)) i = nth l i := fun i hi => by
    rw [nth_eq, nth_eq, upd_eq, List.getElem?_set, if_neg (Ne.symm hi)]
  have key : ∀ i, i < n → ∃ x, nth (upd l k (.int .u8 y)) i = some (.int .u8 x) ∧ 0 ≤ x ∧ x < 256 := fun i hi => by
    by_cases h : i = k
    · subst h; exact ⟨y, g1, y0, y1⟩
    · obtain ⟨a, b, c⟩ := bB hb i hi
      exact ⟨_, by rw [g2 i h]; exact a, b, c⟩
  refine ⟨⟨flat_upd _ hb.flat rfl, fun i hi => ?_, fun i hi => ?_, fun i hi => ?_, hb.small⟩, byteAt_of g1, fun i hi => byteAt_congr (g2 i hi)⟩
  · obtain ⟨x, h, _, _⟩ := key i hi
    rw [Nat.zero_add, byteAt_of h]; exact h
  · obtain ⟨x, h, h0, _⟩ := key i hi
    rw [Nat.zero_add, byteAt_of h]; exact h0
  · obtain ⟨x, h, _, h1⟩ := key i hi
    rw [Nat.zero_add, byteAt_of h]; exact h1
theorem addUp_one {f g : Nat → Int} {j : Nat} : ∀ k, j < k → (∀ i, i < k → i ≠ j → f i = g i) → addUp f k = addUp g k + (f j - g j)
  | 0, h, _ => absurd h (Nat.not_lt_zero _)
  | k + 1, h, he => by
    show addUp f k + f k = addUp g k + g k + (f j - g j)
    by_cases hj : j = k
    · subst hj
      rw [addUp_congr j fun i hi => he i (by omega) (by omega)]
      omega
    · rw [addUp_one k (by omega) fun i hi hne => he i (by omega) hne, he k (by omega) (Ne.symm hj)]
      omega
/-- A checksum that is put into its place. -/
theorem sum_mended {l m : List Value} {H : Nat} (hl : Bytes l 0 H) (hm : Bytes m 0 H) (hH : H % 2 = 0) (h12 : 12 ≤ H) (h10 : byteAt l 10 = 0) (h11 : byteAt l 11 = 0) (m10 : byteAt m 10 = sumV l 0 H / 256) (m11 : byteAt m 11 = sumV l 0 H % 256)
    (he : ∀ i, i ≠ 10 → i ≠ 11 → byteAt m i = byteAt l i) : 0 ≤ sumV l 0 H ∧ sumV l 0 H ≤ 65535 ∧ sumV m 0 H = 0 := by
  obtain ⟨s0, s1⟩ := sumK_bounds hl (H / 2) (by omega)
  have es : sumV l 0 H = 65535 - sumK l 0 (H / 2) := by
    unfold sumV sumOut
    rw [if_neg (by omega)]
  have hp : 0 ≤ addUp (pairO l 0) (H / 2) := addUp_pos _ fun i hi => by
    rw [← twoV_pairO]
    exact (twoV_bounds hl (i := 2 * (i : Int)) (by omega) (by omega)).1
  have hadd : addUp (pairO m 0) (H / 2) = addUp (pairO l 0) (H / 2) + sumV l 0 H := by
    rw [addUp_one (f := pairO m 0) (g := pairO l 0) (j := 5) (H / 2) (by omega) fun i hi hne => by
      unfold pairO
      rw [he (0 + 2 * i) (by omega) (by omega), he (0 + 2 * i + 1) (by omega) (by omega)]]
    have e1 : pairO m 0 5 = sumV l 0 H := by
      unfold pairO
      rw [show 0 + 2 * 5 = 10 by omega, show 10 + 1 = 11 by omega, m10, m11]
      omega
    have e2 : pairO l 0 5 = 0 := by
      unfold pairO
      rw [show 0 + 2 * 5 = 10 by omega, show 10 + 1 = 11 by omega, h10, h11]
      omega
    rw [e1, e2]; omega
  have hk := sumK_fold hl (H / 2) (by omega)
  have hk' := sumK_fold hm (H / 2) (by omega)
  have e3 : sumV m 0 H = 65535 - sumK m 0 (H / 2) := by
    unfold sumV sumOut
    rw [if_neg (by omega)]
  refine ⟨by omega, by omega, ?_⟩
  rw [e3, hk', hadd, es, hk]
  generalize addUp (pairO l 0) (H / 2) = A at hp
  unfold fold16
  by_cases hA : A = 0
  · subst hA; decide
  · rw [if_neg hA, if_neg (by omega)]; omega

/-! ### what a packet is, by its version -/

theorem parse_ver {cs : List Value} {n : Nat} (he : (parseF cs n).err = 0) : (parseF cs n).ver = 4 ∨ (parseF cs n).ver = 6 := by
  unfold parseF at he ⊢
  cases q1 : decide ((n : Int) < 1) with
  | true => rw [q1] at he; exact absurd (show (8 : Int) = 0 from he) (by decide)
  | false =>
  rw [q1] at he
  simp only [cond_false] at he ⊢
  cases q4 : (B cs 0 / 16 == 4) with
  | true =>
    rw [q4] at he
    simp only [cond_true] at he ⊢
    cases qb : isBad4 cs n with
    | true => rw [qb] at he; exact absurd (show bad4 cs n = 0 from he) (v4Err_ne _ _ _ _ _ _)
    | false => exact .inl rfl
  | false =>
    rw [q4] at he
    simp only [cond_false] at he ⊢
    cases q6 : (B cs 0 / 16 == 6) with
    | true =>
      rw [q6] at he
      simp only [cond_true] at he ⊢
      cases qe : (er6 cs n != 0) with
      | true =>
        rw [qe] at he
        have : er6 cs n = 0 := he
        rw [this] at qe; cases qe
      | false => exact .inr rfl
    | false => rw [q6] at he; exact absurd (show (180 : Int) = 0 from he) (by decide)
theorem parse6 {cs : List Value} {n : Nat} (hb : Bytes cs 0 n) (he : (parseF cs n).err = 0) (hv : (parseF cs n).ver = 6) : ¬ (n : Int) < 1 ∧ B cs 0 / 16 = 6 ∧ er6 cs n = 0 ∧ (parseF cs n).len = len6V cs ∧ (parseF cs n).ttl = byteAt cs 7 ∧ 40 ≤ len6V cs ∧ len6V cs ≤ (n : Int) := by
  unfold parseF at he hv ⊢
  cases q1 : decide ((n : Int) < 1) with
  | true => rw [q1] at he; exact absurd (show (8 : Int) = 0 from he) (by decide)
  | false =>
  rw [q1] at he hv
  simp only [cond_false] at he hv ⊢
  cases q4 : (B cs 0 / 16 == 4) with
  | true =>
    rw [q4] at he hv
    simp only [cond_true] at he hv ⊢
    cases qb : isBad4 cs n with
    | true => rw [qb] at he; exact absurd (show bad4 cs n = 0 from he) (v4Err_ne _ _ _ _ _ _)
    | false => rw [qb] at hv; exact absurd (show (4 : Int) = 6 from hv) (by decide)
  | false =>
    rw [q4] at he hv
    simp only [cond_false] at he hv ⊢
    cases q6 : (B cs 0 / 16 == 6) with
    | true =>
      rw [q6] at he hv
      simp only [cond_true] at he hv ⊢
      cases qe : (er6 cs n != 0) with
      | true =>
        rw [qe] at he
        have : er6 cs n = 0 := he
        rw [this] at qe; cases qe
      | false =>
        have hz : er6 cs n = 0 := by simpa using qe
        obtain ⟨g1, g2, g3, g4, g5, g6⟩ := ok6 hb hz
        refine ⟨by simpa using q1, by simpa using q6, hz, g3, ?_, by omega, by omega⟩
        show (k6 cs n).ttl = _
        unfold k6
        have d3 : decide ((n : Int) < 40) = false := by simp; omega
        have d4 : decide ((n : Int) < len6V cs) = false := by simp; omega
        rw [d3, d4]; rfl
    | false => rw [q6] at he; exact absurd (show (180 : Int) = 0 from he) (by decide)
theorem parse4ttl {cs : List Value} {n : Nat} (he : (parseF cs n).err = 0) (hv : (parseF cs n).ver = 4) : (parseF cs n).ttl = B cs 8 := by
  obtain ⟨h1, h4, hg, _, _⟩ := parse4 he hv
  unfold parseF
  have q1 : decide ((n : Int) < 1) = false := by simpa using h1
  have q4 : (B cs 0 / 16 == 4) = true := by simpa using h4
  rw [q1, q4, hg]; rfl
/-- A packet that differs from another one in its time to live alone. -/
structure Pk (r : List Value) (q : Nat) (p : PF) (t : Int) : Prop where
  bytes : Bytes r 0 q
  err : (parseF r q).err = 0
  c0 : (parseF r q).c0 = p.c0
  ttl : (parseF r q).ttl = t
theorem c0_ver {p q : PF} (h : p.c0 = q.c0) : p.ver = q.ver := by
  have this : nth p.c0 0 = nth q.c0 0 := by rw [h]
  have e : ∀ x : PF, nth x.c0 0 = some (.int .i64 x.ver) := fun x => rfl
  rw [e, e] at this
  injection this with h1
  injection h1
theorem cells_ttl {p q : PF} (h : p.cells = q.cells) : p.c0 = q.c0 ∧ p.ttl = q.ttl := by
  have e0 : ∀ x : PF, x.c0 = upd x.cells 9 (.int .i64 0) := fun x => rfl
  have e : ∀ x : PF, nth x.cells 9 = some (.int .i64 x.ttl) := fun x => rfl
  refine ⟨by rw [e0, e0, h], ?_⟩
  have this : nth p.cells 9 = nth q.cells 9 := by rw [h]
  rw [e, e] at this
  injection this with h1
  injection h1
end Go.Proofs.YtnfijnioclcnmaaDoor
