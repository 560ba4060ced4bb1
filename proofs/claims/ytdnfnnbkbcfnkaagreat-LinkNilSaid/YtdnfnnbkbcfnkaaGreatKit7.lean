/- A certified evaluator of calls, run by the kernel, with its rules for what is not known: what it tells holds of every program. -/
import Ieee.Arith
namespace Go.Ev
open Ieee

theorem cmp_int (x y : Int) : compare x y = if x < y then .lt else if x = y then .eq else .gt := rfl
theorem signed_add (s : Bool) (m u d : Nat) : signed s m (u + d) = signed s m u * 2 ^ d := by
  unfold signed
  have e : ((m <<< (u + d) : Nat) : Int) = ((m <<< u : Nat) : Int) * 2 ^ d := by
    rw [Nat.shiftLeft_eq, Nat.shiftLeft_eq, Nat.pow_add]
    push_cast
    rw [Int.mul_assoc]
  rw [e]
  cases s
  · rfl
  · simp only [if_true]; rw [Int.neg_mul]
theorem cmp_scale (x y : Int) (d : Nat) : compare (x * 2 ^ d) (y * 2 ^ d) = compare x y := by
  have h : (0 : Int) < 2 ^ d := Int.pow_pos (by decide)
  rw [cmp_int, cmp_int]
  have h1 : x * 2 ^ d < y * 2 ^ d ↔ x < y := Int.mul_lt_mul_right h
  have h2 : x * 2 ^ d = y * 2 ^ d ↔ x = y := by
    constructor
    · intro e; exact Int.eq_of_mul_eq_mul_right (by omega) e
    · intro e; rw [e]
  simp only [h1, h2]
/-- What a datum counts, in units of 2 ^ base; M: what an infinity counts. -/
def count (base : Int) (M : Int) : Datum → Int
  | .number s m i => signed s m (i - base).toNat
  | .infinity s => if s then -M else M
  | .nan _ _ => 0
def placeOf : Datum → Int
  | .number _ _ i => i
  | _ => 0
theorem order_count {base M : Int} {x y : Datum} (hx : x.isNaN = false) (hy : y.isNaN = false) (px : base ≤ placeOf x) (py : base ≤ placeOf y)
    (mx : ∀ s m i, x = .number s m i → (count base M x).natAbs < M) (my : ∀ s m i, y = .number s m i → (count base M y).natAbs < M) (hM : 0 < M) : x.order y = some (compare (count base M x) (count base M y)) := by
  cases x with
  | nan => simp [Datum.isNaN] at hx
  | infinity s =>
    cases y with
    | nan => simp [Datum.isNaN] at hy
    | infinity t =>
      cases s <;> cases t <;> simp only [Datum.order, count, Bool.toNat] <;> rw [cmp_int] <;> simp <;> first | rfl | (split <;> first | rfl | omega) | omega | skip
      all_goals (first | rfl | (rw [if_neg (by omega), if_neg (by omega)]; rfl) | (rw [if_pos (by omega)]; rfl))
    | number t n j =>
      have h := my t n j rfl
      simp only [Datum.order]
      rw [cmp_int]
      cases s
      · have : count base M (.infinity false) = M := rfl
        rw [this]; generalize count base M _ = c at h ⊢; have a1 : ¬ M < c := by omega
        have a2 : ¬ M = c := by omega
        rw [if_neg a1, if_neg a2]; rfl
      · have : count base M (.infinity true) = -M := rfl
        rw [this]; generalize count base M _ = c at h ⊢; have a1 : -M < c := by omega
        rw [if_pos a1]; rfl
  | number s m i =>
    cases y with
    | nan => simp [Datum.isNaN] at hy
    | infinity t =>
      have h := mx s m i rfl
      simp only [Datum.order]
      rw [cmp_int]
      cases t
      · have : count base M (.infinity false) = M := rfl
        rw [this]; generalize count base M _ = c at h ⊢; have a1 : c < M := by omega
        rw [if_pos a1]; rfl
      · have : count base M (.infinity true) = -M := rfl
        rw [this]; generalize count base M _ = c at h ⊢; have a1 : ¬ c < -M := by omega
        have a2 : ¬ c = -M := by omega
        rw [if_neg a1, if_neg a2]; rfl
    | number t n j =>
      simp only [Datum.order, count]
      have px' : base ≤ i := px
      have py' : base ≤ j := py
      have e1 : (i - base).toNat = (i - min i j).toNat + (min i j - base).toNat := by omega
      have e2 : (j - base).toNat = (j - min i j).toNat + (min i j - base).toNat := by omega
      rw [e1, e2, signed_add, signed_add, cmp_scale]
/-- A few words' order is that of a few whole numbers. -/
theorem keys (l : List Datum) (hl : ∀ x ∈ l, x.isNaN = false) : ∃ base M : Int, 0 < M ∧ (∀ x ∈ l, base ≤ placeOf x) ∧ (∀ x ∈ l, ∀ s m i, x = .number s m i → (count base M x).natAbs < M) ∧ ∀ x ∈ l, ∀ y ∈ l, x.order y = some (compare (count base M x) (count base M y)) := by
  obtain ⟨base, hb⟩ : ∃ base : Int, ∀ x ∈ l, base ≤ placeOf x := by
    clear hl
    induction l with
    | nil => exact ⟨0, fun _ h => by cases h⟩
    | cons x l ih =>
      obtain ⟨b, hb⟩ := ih
      refine ⟨min b (placeOf x), fun y hy => ?_⟩
      rcases List.mem_cons.1 hy with rfl | hy
      · omega
      · have := hb y hy; omega
  obtain ⟨M, hM0, hM⟩ : ∃ M : Int, 0 < M ∧ ∀ x ∈ l, ∀ s m i, x = .number s m i → ((signed s m (i - base).toNat).natAbs : Int) < M := by
    clear hl hb
    induction l with
    | nil => exact ⟨1, by decide, fun _ h => by cases h⟩
    | cons x l ih =>
      obtain ⟨M, h0, hM⟩ := ih
      refine ⟨max M ((match x with | .number s m i => ((signed s m (i - base).toNat).natAbs : Int) | _ => 0) + 1), by omega, fun y hy s m i e => ?_⟩
      rcases List.mem_cons.1 hy with rfl | hy
      · subst e; simp only []; omega
      · have := hM y hy s m i e; omega
  have hc : ∀ x ∈ l, ∀ s m i, x = .number s m i → (count base M x).natAbs < M := fun x hx s m i e => by subst e; exact hM _ hx s m i rfl
  exact ⟨base, M, hM0, hb, hc, fun x hx y hy => order_count (hl x hx) (hl y hy) (hb x hx) (hb y hy) (hc x hx) (hc y hy) hM0⟩
theorem order_nan {x y : Datum} : x.order y = none ↔ x.isNaN = true ∨ y.isNaN = true := by
  cases x <;> cases y <;> simp [Datum.order, Datum.isNaN]
theorem signed_mul (s : Bool) (m u : Nat) : signed s m u = (if s then -1 else 1) * ((m * 2 ^ u : Nat) : Int) := by
  unfold signed
  rw [Nat.shiftLeft_eq]
  cases s <;> simp
theorem signed_zero {s : Bool} {m u : Nat} : signed s m u = 0 ↔ m = 0 := by
  rw [signed_mul]
  have hp : 0 < 2 ^ u := Nat.two_pow_pos u
  constructor
  · intro h
    have h1 : m * 2 ^ u = 0 := by generalize m * 2 ^ u = k at h; cases s <;> simp at h <;> omega
    rcases Nat.mul_eq_zero.1 h1 with h | h
    · exact h
    · omega
  · rintro rfl; simp
theorem signed_neg {s : Bool} {m u : Nat} (h : signed s m u < 0) : s = true := by
  rw [signed_mul] at h
  generalize m * 2 ^ u = k at h
  cases s
  · simp at h; omega
  · rfl
theorem signed_pos {s : Bool} {m u : Nat} (h : 0 < signed s m u) : s = false := by
  rw [signed_mul] at h
  generalize m * 2 ^ u = k at h
  cases s
  · rfl
  · simp at h; omega
end Go.Ev
namespace Go.Ev
open Ieee

abbrev W64 (a : Nat) : Prop := a < 2 ^ 64
def rd64 (a : Nat) : Datum := Ieee.double.read a
theorem width_eq : Ieee.double.signWeight = 2 ^ 63 ∧ Ieee.double.binade = 2 ^ 52 ∧ Ieee.double.infRung = 2047 * 2 ^ 52 ∧ Ieee.double.leastPlace = -1074 := by decide
def negW (a : Nat) : Bool := a / 2 ^ 63 % 2 == 1
theorem rd64_eq (a : Nat) : rd64 a = if a % 2 ^ 63 < 2 ^ 52 then .number (negW a) (a % 2 ^ 63) (-1074) else if a % 2 ^ 63 < 2047 * 2 ^ 52 then .number (negW a) (2 ^ 52 + a % 2 ^ 63 % 2 ^ 52) (-1074 + (a % 2 ^ 63 / 2 ^ 52 - 1 : Nat))
    else if a % 2 ^ 63 = 2047 * 2 ^ 52 then .infinity (negW a) else .nan (negW a) (a % 2 ^ 63 - 2047 * 2 ^ 52) := by
  obtain ⟨h1, h2, h3, h4⟩ := width_eq
  unfold rd64 Format.read
  rw [h1, h2, h3, h4]
  rfl
def gr (r : Nat) : Nat := if r < 2 ^ 52 then r else (2 ^ 52 + r % 2 ^ 52) * 2 ^ (r / 2 ^ 52 - 1)
theorem gr_lt {r r' : Nat} (h : r < r') : gr r < gr r' := by
  unfold gr
  by_cases h1 : r < 2 ^ 52
  · rw [if_pos h1]
    by_cases h2 : r' < 2 ^ 52
    · rw [if_pos h2]; exact h
    · rw [if_neg h2]
      have hp : 0 < 2 ^ (r' / 2 ^ 52 - 1) := Nat.two_pow_pos _
      calc r < 2 ^ 52 + r' % 2 ^ 52 := by omega
        _ ≤ _ := Nat.le_mul_of_pos_right _ hp
  · have h2 : ¬ r' < 2 ^ 52 := by omega
    rw [if_neg h1, if_neg h2]
    have hle : r / 2 ^ 52 ≤ r' / 2 ^ 52 := Nat.div_le_div_right (by omega)
    rcases Nat.eq_or_lt_of_le hle with he | hl
    · rw [he]
      exact Nat.mul_lt_mul_of_pos_right (by have := Nat.div_add_mod r (2 ^ 52); have := Nat.div_add_mod r' (2 ^ 52); omega) (Nat.two_pow_pos _)
    · have hm : r % 2 ^ 52 < 2 ^ 52 := Nat.mod_lt _ (by decide)
      have hq : 1 ≤ r / 2 ^ 52 := by omega
      have e1 : (2 ^ 52 + r % 2 ^ 52) * 2 ^ (r / 2 ^ 52 - 1) < 2 ^ 52 * 2 ^ (r / 2 ^ 52) := by
        have : 2 ^ (r / 2 ^ 52) = 2 * 2 ^ (r / 2 ^ 52 - 1) := by rw [← Nat.pow_succ']; congr 1; omega
        rw [this]
        have hp : 0 < 2 ^ (r / 2 ^ 52 - 1) := Nat.two_pow_pos _
        generalize 2 ^ (r / 2 ^ 52 - 1) = k at hp
        rw [← Nat.mul_assoc]
        exact Nat.mul_lt_mul_of_pos_right (by omega) hp
      have e2 : 2 ^ 52 * 2 ^ (r / 2 ^ 52) ≤ (2 ^ 52 + r' % 2 ^ 52) * 2 ^ (r' / 2 ^ 52 - 1) := Nat.mul_le_mul (by omega) (Nat.pow_le_pow_right (by decide) (by omega))
      omega
theorem gr_inj {r r' : Nat} (h : gr r = gr r') : r = r' := by
  rcases Nat.lt_trichotomy r r' with h1 | h1 | h1
  · have := gr_lt h1; omega
  · exact h1
  · have := gr_lt h1; omega
/-- What a number counts, by its rung. -/
theorem count_rung {base M : Int} (hb : base ≤ -1074) (a : Nat) (h : a % 2 ^ 63 < 2047 * 2 ^ 52) : count base M (rd64 a) = signed (negW a) (gr (a % 2 ^ 63)) (-1074 - base).toNat ∧ ∃ m i, rd64 a = .number (negW a) m i := by
  rw [rd64_eq]
  unfold gr
  by_cases h1 : a % 2 ^ 63 < 2 ^ 52
  · rw [if_pos h1, if_pos h1]; exact ⟨rfl, _, _, rfl⟩
  · rw [if_neg h1, if_neg h1, if_pos h]
    refine ⟨?_, _, _, rfl⟩
    simp only [count]
    have e : (-1074 + ((a % 2 ^ 63 / 2 ^ 52 - 1 : Nat) : Int) - base).toNat = (a % 2 ^ 63 / 2 ^ 52 - 1) + (-1074 - base).toNat := by omega
    rw [e, signed_mul, signed_mul, Nat.pow_add, Nat.mul_assoc]
theorem inf_of {a : Nat} (h1 : ¬ a % 2 ^ 63 < 2047 * 2 ^ 52) (hn : (rd64 a).isNaN = false) : a % 2 ^ 63 = 2047 * 2 ^ 52 ∧ rd64 a = .infinity (negW a) := by
  rw [rd64_eq] at hn ⊢
  have h0 : ¬ a % 2 ^ 63 < 2 ^ 52 := by omega
  rw [if_neg h0, if_neg h1] at hn ⊢
  by_cases h : a % 2 ^ 63 = 2047 * 2 ^ 52
  · exact ⟨h, if_pos h⟩
  · rw [if_neg h] at hn; simp [Datum.isNaN] at hn
theorem word_of {a b : Nat} (ha : W64 a) (hb : W64 b) (hr : a % 2 ^ 63 = b % 2 ^ 63) (hn : negW a = negW b) : a = b := by
  have h1 := Nat.div_add_mod a (2 ^ 63)
  have h2 := Nat.div_add_mod b (2 ^ 63)
  have h3 : a / 2 ^ 63 < 2 := by unfold W64 at ha; omega
  have h4 : b / 2 ^ 63 < 2 := by unfold W64 at hb; omega
  have h5 : a / 2 ^ 63 = b / 2 ^ 63 := by
    unfold negW at hn
    rw [Nat.mod_eq_of_lt h3, Nat.mod_eq_of_lt h4] at hn
    generalize a / 2 ^ 63 = x at *
    generalize b / 2 ^ 63 = y at *
    have hx : x = 0 ∨ x = 1 := by omega
    have hy : y = 0 ∨ y = 1 := by omega
    rcases hx with rfl | rfl <;> rcases hy with rfl | rfl <;> first | rfl | (simp at hn)
  omega

abbrev ordW (a b : Nat) : Option Ordering := (rd64 a).order (rd64 b)
def nanW (a : Nat) : Bool := (rd64 a).isNaN
/-- Three words, and zero: whole numbers that stand to each other as they do. -/
theorem keysW (a b c : Nat) (ha : nanW a = false) (hb : nanW b = false) (hc : nanW c = false) : ∃ k : Nat → Int, k 0 = 0 ∧ (∀ x ∈ [a, b, c, 0], ∀ y ∈ [a, b, c, 0], ordW x y = some (compare (k x) (k y))) ∧
    (∀ x ∈ [a, b, c, 0], (k x < 0 → negW x = true) ∧ (0 < k x → negW x = false)) ∧ (∀ x ∈ [a, b, c, 0], ∀ y ∈ [a, b, c, 0], W64 x → W64 y → k x = k y → (k x ≠ 0 ∨ negW x = negW y) → x = y) := by
  have h0 : (rd64 0).isNaN = false := by decide
  have hnn : ∀ x ∈ [a, b, c, 0], (rd64 x).isNaN = false := by
    intro x hx
    simp only [List.mem_cons, List.not_mem_nil, or_false] at hx
    rcases hx with rfl | rfl | rfl | rfl
    · exact ha
    · exact hb
    · exact hc
    · exact h0
  obtain ⟨base, M, hM, hbase, hlt, hord⟩ := keys ([a, b, c, 0].map rd64) (fun d hd => by obtain ⟨x, hx, rfl⟩ := List.mem_map.1 hd; exact hnn x hx)
  have mem : ∀ x ∈ [a, b, c, 0], rd64 x ∈ [a, b, c, 0].map rd64 := fun x hx => List.mem_map_of_mem hx
  have hbl : base ≤ -1074 := hbase (rd64 0) (mem 0 (by simp))
  refine ⟨fun x => count base M (rd64 x), ?_, fun x hx y hy => hord _ (mem x hx) _ (mem y hy), fun x hx => ?_, fun x hx y hy wx wy he hne => ?_⟩
  · show count base M (rd64 0) = 0
    have := (count_rung (M := M) hbl 0 (by decide)).1
    rw [this]
    exact signed_zero.2 (by decide)
  · show (count base M (rd64 x) < 0 → negW x = true) ∧ (0 < count base M (rd64 x) → negW x = false)
    by_cases h1 : x % 2 ^ 63 < 2047 * 2 ^ 52
    · rw [(count_rung (M := M) hbl x h1).1]
      exact ⟨signed_neg, signed_pos⟩
    · rw [(inf_of h1 (hnn x hx)).2]
      simp only [count]
      cases negW x <;> simp <;> omega
  · have bound : ∀ z ∈ [a, b, c, 0], z % 2 ^ 63 < 2047 * 2 ^ 52 → (count base M (rd64 z)).natAbs < M := fun z hz h => by
      obtain ⟨m, i, e⟩ := (count_rung (M := M) hbl z h).2
      exact hlt _ (mem z hz) _ m i e
    have infc : ∀ z, (count base M (.infinity (negW z))).natAbs = M := fun z => by
      simp only [count]; cases negW z <;> simp <;> omega
    have hne : count base M (rd64 x) ≠ 0 ∨ negW x = negW y := hne
    have he : count base M (rd64 x) = count base M (rd64 y) := he
    by_cases h1 : x % 2 ^ 63 < 2047 * 2 ^ 52
    · by_cases h2 : y % 2 ^ 63 < 2047 * 2 ^ 52
      · rw [(count_rung (M := M) hbl x h1).1] at he
        rw [(count_rung (M := M) hbl x h1).1] at hne
        rw [(count_rung (M := M) hbl y h2).1] at he
        have hs : negW x = negW y := by
          rcases hne with hne | hne
          rcases Int.lt_or_gt_of_ne hne with h | h
          · have h' := h
            rw [he] at h'
            rw [signed_neg h, signed_neg h']
          · have h' := h
            rw [he] at h'
            rw [signed_pos h, signed_pos h']
          · exact hne
        refine word_of wx wy (gr_inj ?_) hs
        rw [hs, signed_mul, signed_mul] at he
        have hp : 0 < 2 ^ (-1074 - base).toNat := Nat.two_pow_pos _
        have he2 : gr (x % 2 ^ 63) * 2 ^ (-1074 - base).toNat = gr (y % 2 ^ 63) * 2 ^ (-1074 - base).toNat := by
          generalize gr (x % 2 ^ 63) * 2 ^ (-1074 - base).toNat = u at he ⊢
          generalize gr (y % 2 ^ 63) * 2 ^ (-1074 - base).toNat = v at he ⊢
          cases hny : negW y <;> rw [hny] at he <;> simp only [Bool.false_eq_true, if_false, if_true] at he <;> omega
        exact Nat.eq_of_mul_eq_mul_right hp he2
      · have := bound x hx h1
        rw [he, (inf_of h2 (hnn y hy)).2, infc] at this
        omega
    · by_cases h2 : y % 2 ^ 63 < 2047 * 2 ^ 52
      · have := bound y hy h2
        rw [← he, (inf_of h1 (hnn x hx)).2, infc] at this
        omega
      · obtain ⟨e1, e2⟩ := inf_of h1 (hnn x hx)
        obtain ⟨e3, e4⟩ := inf_of h2 (hnn y hy)
        refine word_of wx wy (by omega) ?_
        rw [e2, e4] at he
        simp only [count] at he
        cases h5 : negW x <;> cases h6 : negW y <;> rw [h5, h6] at he <;> simp at he <;> first | rfl | omega
end Go.Ev
