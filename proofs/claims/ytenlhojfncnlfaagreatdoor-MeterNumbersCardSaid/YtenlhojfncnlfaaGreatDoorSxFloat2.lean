/- Words of double precision: what stands ahead, what is zero, what is alike. Plain Lean. -/
import Derived.Test.YtenlhojfncnlfaaGreatDoorSxFloat
namespace Go.Ev
open Ieee

abbrev W64 (a : Nat) : Prop := a < 2 ^ 64
def rd64 (a : Nat) : Datum := Ieee.double.read a
theorem width_eq : Ieee.double.signWeight = 2 ^ 63 ∧ Ieee.double.binade = 2 ^ 52 ∧ Ieee.double.infRung = 2047 * 2 ^ 52 ∧ Ieee.double.leastPlace = -1074 := by decide
def negW (a : Nat) : Bool := a / 2 ^ 63 % 2 == 1
theorem rd64_eq (a : Nat) : rd64 a = if a % 2 ^ 63 < 2 ^ 52 then .number (negW a) (a % 2 ^ 63) (-1074) else if a % 2 ^ 63 < 2047 * 2 ^ 52 then .number (negW a) (2 ^ 52 + a % 2 ^ 63 % 2 ^ 52) (-1074 + (a % 2 ^ 63 / 2 ^ 52 - 1 : Nat))
    else if a % 2 ^ 63 = 2047 * 2 ^ 52 then .infinity (negW a) else .nan (negW a) (a % 2 ^ 63 - 2047 * 2 ^ 52) := by
  obtain ⟨h1, h2, h3, h4⟩ := width_eq
  unfold rd64 Format.read
  rw [h1, h2, h3, h4]
  rfl
def gr (r : Nat) : Nat := if r < 2 ^ 52 then r else (2 ^ 52 + r % 2 ^ 52) * 2 ^ (r / 2 ^ 52 - 1)
theorem gr_lt {r r' : Nat} (h : r < r') : gr r < gr r' := by
  unfold gr
  by_cases h1 : r < 2 ^ 52
  · rw [if_pos h1]
    by_cases h2 : r' < 2 ^ 52
    · rw [if_pos h2]; exact h
    · rw [if_neg h2]
      have hp : 0 < 2 ^ (r' / 2 ^ 52 - 1) := Nat.two_pow_pos _
      calc r < 2 ^ 52 + r' % 2 ^ 52 := by omega
        _ ≤ _ := Nat.le_mul_of_pos_right _ hp
  · have h2 : ¬ r' < 2 ^ 52 := by omega
    rw [if_neg h1, if_neg h2]
    have hle : r / 2 ^ 52 ≤ r' / 2 ^ 52 := Nat.div_le_div_right (by omega)
    rcases Nat.eq_or_lt_of_le hle with he | hl
    · rw [he]
      exact Nat.mul_lt_mul_of_pos_right (by have := Nat.div_add_mod r (2 ^ 52); have := Nat.div_add_mod r' (2 ^ 52); omega) (Nat.two_pow_pos _)
    · have hm : r % 2 ^ 52 < 2 ^ 52 := Nat.mod_lt _ (by decide)
      have hq : 1 ≤ r / 2 ^ 52 := by omega
      have e1 : (2 ^ 52 + r % 2 ^ 52) * 2 ^ (r / 2 ^ 52 - 1) < 2 ^ 52 * 2 ^ (r / 2 ^ 52) := by
        have : 2 ^ (r / 2 ^ 52) = 2 * 2 ^ (r / 2 ^ 52 - 1) := by rw [← Nat.pow_succ']; congr 1; omega
        rw [this]
        have hp : 0 < 2 ^ (r / 2 ^ 52 - 1) := Nat.two_pow_pos _
        generalize 2 ^ (r / 2 ^ 52 - 1) = k at hp
        rw [← Nat.mul_assoc]
        exact Nat.mul_lt_mul_of_pos_right (by omega) hp
      have e2 : 2 ^ 52 * 2 ^ (r / 2 ^ 52) ≤ (2 ^ 52 + r' % 2 ^ 52) * 2 ^ (r' / 2 ^ 52 - 1) := Nat.mul_le_mul (by omega) (Nat.pow_le_pow_right (by decide) (by omega))
      omega
theorem gr_inj {r r' : Nat} (h : gr r = gr r') : r = r' := by
  rcases Nat.lt_trichotomy r r' with h1 | h1 | h1
  · have := gr_lt h1; omega
  · exact h1
  · have := gr_lt h1; omega
/-- What a number counts, by its rung. -/
theorem count_rung {base M : Int} (hb : base ≤ -1074) (a : Nat) (h : a % 2 ^ 63 < 2047 * 2 ^ 52) : count base M (rd64 a) = signed (negW a) (gr (a % 2 ^ 63)) (-1074 - base).toNat ∧ ∃ m i, rd64 a = .number (negW a) m i := by
  rw [rd64_eq]
  unfold gr
  by_cases h1 : a % 2 ^ 63 < 2 ^ 52
  · rw [if_pos h1, if_pos h1]; exact ⟨rfl, _, _, rfl⟩
  · rw [if_neg h1, if_neg h1, if_pos h]
    refine ⟨?_, _, _, rfl⟩
    simp only [count]
    have e : (-1074 + ((a % 2 ^ 63 / 2 ^ 52 - 1 : Nat) : Int) - base).toNat = (a % 2 ^ 63 / 2 ^ 52 - 1) + (-1074 - base).toNat := by omega
    rw [e, signed_mul, signed_mul, Nat.pow_add, Nat.mul_assoc]
theorem inf_of {a : Nat} (h1 : ¬ a % 2 ^ 63 < 2047 * 2 ^ 52) (hn : (rd64 a).isNaN = false) : a % 2 ^ 63 = 2047 * 2 ^ 52 ∧ rd64 a = .infinity (negW a) := by
  rw [rd64_eq] at hn ⊢
  have h0 : ¬ a % 2 ^ 63 < 2 ^ 52 := by omega
  rw [if_neg h0, if_neg h1] at hn ⊢
  by_cases h : a % 2 ^ 63 = 2047 * 2 ^ 52
  · exact ⟨h, if_pos h⟩
  · rw [if_neg h] at hn; simp [Datum.isNaN] at hn
theorem word_of {a b : Nat} (ha : W64 a) (hb : W64 b) (hr : a % 2 ^ 63 = b % 2 ^ 63) (hn : negW a = negW b) : a = b := by
  have h1 := Nat.div_add_mod a (2 ^ 63)
  have h2 := Nat.div_add_mod b (2 ^ 63)
  have h3 : a / 2 ^ 63 < 2 := by unfold W64 at ha; omega
  have h4 : b / 2 ^ 63 < 2 := by unfold W64 at hb; omega
  have h5 : a / 2 ^ 63 = b / 2 ^ 63 := by
    unfold negW at hn
    rw [Nat.mod_eq_of_lt h3, Nat.mod_eq_of_lt h4] at hn
    generalize a / 2 ^ 63 = x at *
    generalize b / 2 ^ 63 = y at *
    have hx : x = 0 ∨ x = 1 := by omega
    have hy : y = 0 ∨ y = 1 := by omega
    rcases hx with rfl | rfl <;> rcases hy with rfl | rfl <;> first | rfl | (simp at hn)
  omega

abbrev ordW (a b : Nat) : Option Ordering := (rd64 a).order (rd64 b)
def nanW (a : Nat) : Bool := (rd64 a).isNaN
/-- Three words, and zero: whole numbers that stand to each other as they do. -/
theorem keysW (a b c : Nat) (ha : nanW a = false) (hb : nanW b = false) (hc : nanW c = false) : ∃ k : Nat → Int, k 0 = 0 ∧ (∀ x ∈ [a, b, c, 0], ∀ y ∈ [a, b, c, 0], ordW x y = some (compare (k x) (k y))) ∧
    (∀ x ∈ [a, b, c, 0], (k x < 0 → negW x = true) ∧ (0 < k x → negW x = false)) ∧ (∀ x ∈ [a, b, c, 0], ∀ y ∈ [a, b, c, 0], W64 x → W64 y → k x = k y → (k x ≠ 0 ∨ negW x = negW y) → x = y) := by
  have h0 : (rd64 0).isNaN = false := by decide
  have hnn : ∀ x ∈ [a, b, c, 0], (rd64 x).isNaN = false := by
    intro x hx
    simp only [List.mem_cons, List.not_mem_nil, or_false] at hx
    rcases hx with rfl | rfl | rfl | rfl
    · exact ha
    · exact hb
    · exact hc
    · exact h0
  obtain ⟨base, M, hM, hbase, hlt, hord⟩ := keys ([a, b, c, 0].map rd64) (fun d hd => by obtain ⟨x, hx, rfl⟩ := List.mem_map.1 hd; exact hnn x hx)
  have mem : ∀ x ∈ [a, b, c, 0], rd64 x ∈ [a, b, c, 0].map rd64 := fun x hx => List.mem_map_of_mem hx
  have hbl : base ≤ -1074 := hbase (rd64 0) (mem 0 (by simp))
  refine ⟨fun x => count base M (rd64 x), ?_, fun x hx y hy => hord _ (mem x hx) _ (mem y hy), fun x hx => ?_, fun x hx y hy wx wy he hne => ?_⟩
  · show count base M (rd64 0) = 0
    have := (count_rung (M := M) hbl 0 (by decide)).1
    rw [this]
    exact signed_zero.2 (by decide)
  · show (count base M (rd64 x) < 0 → negW x = true) ∧ (0 < count base M (rd64 x) → negW x = false)
    by_cases h1 : x % 2 ^ 63 < 2047 * 2 ^ 52
    · rw [(count_rung (M := M) hbl x h1).1]
      exact ⟨signed_neg, signed_pos⟩
    · rw [(inf_of h1 (hnn x hx)).2]
      simp only [count]
      cases negW x <;> simp <;> omega
  · have bound : ∀ z ∈ [a, b, c, 0], z % 2 ^ 63 < 2047 * 2 ^ 52 → (count base M (rd64 z)).natAbs < M := fun z hz h => by
      obtain ⟨m, i, e⟩ := (count_rung (M := M) hbl z h).2
      exact hlt _ (mem z hz) _ m i e
    have infc : ∀ z, (count base M (.infinity (negW z))).natAbs = M := fun z => by
      simp only [count]; cases negW z <;> simp <;> omega
    have hne : count base M (rd64 x) ≠ 0 ∨ negW x = negW y := hne
    have he : count base M (rd64 x) = count base M (rd64 y) := he
    by_cases h1 : x % 2 ^ 63 < 2047 * 2 ^ 52
    · by_cases h2 : y % 2 ^ 63 < 2047 * 2 ^ 52
      · rw [(count_rung (M := M) hbl x h1).1] at he
        rw [(count_rung (M := M) hbl x h1).1] at hne
        rw [(count_rung (M := M) hbl y h2).1] at he
        have hs : negW x = negW y := by
          rcases hne with hne | hne
          rcases Int.lt_or_gt_of_ne hne with h | h
          · have h' := h
            rw [he] at h'
            rw [signed_neg h, signed_neg h']
          · have h' := h
            rw [he] at h'
            rw [signed_pos h, signed_pos h']
          · exact hne
        refine word_of wx wy (gr_inj ?_) hs
        rw [hs, signed_mul, signed_mul] at he
        have hp : 0 < 2 ^ (-1074 - base).toNat := Nat.two_pow_pos _
        have he2 : gr (x % 2 ^ 63) * 2 ^ (-1074 - base).toNat = gr (y % 2 ^ 63) * 2 ^ (-1074 - base).toNat := by
          generalize gr (x % 2 ^ 63) * 2 ^ (-1074 - base).toNat = u at he ⊢
          generalize gr (y % 2 ^ 63) * 2 ^ (-1074 - base).toNat = v at he ⊢
          cases hny : negW y <;> rw [hny] at he <;> simp only [Bool.false_eq_true, if_false, if_true] at he <;> omega
        exact Nat.eq_of_mul_eq_mul_right hp he2
      · have := bound x hx h1
        rw [he, (inf_of h2 (hnn y hy)).2, infc] at this
        omega
    · by_cases h2 : y % 2 ^ 63 < 2047 * 2 ^ 52
      · have := bound y hy h2
        rw [← he, (inf_of h1 (hnn x hx)).2, infc] at this
        omega
      · obtain ⟨e1, e2⟩ := inf_of h1 (hnn x hx)
        obtain ⟨e3, e4⟩ := inf_of h2 (hnn y hy)
        refine word_of wx wy (by omega) ?_
        rw [e2, e4] at he
        simp only [count] at he
        cases h5 : negW x <;> cases h6 : negW y <;> rw [h5, h6] at he <;> simp at he <;> first | rfl | omega
end Go.Ev
