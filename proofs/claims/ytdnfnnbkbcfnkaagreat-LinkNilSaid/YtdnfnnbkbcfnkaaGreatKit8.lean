/- A certified evaluator of calls, run by the kernel, with its rules for what is not known: what it tells holds of every program. -/
import GoSem.Core.Float
import GoSem.Core.View
import Derived.Test.YtdnfnnbkbcfnkaaGreatKit7
namespace Go.Ev
open Ieee Go

abbrev cmpF (a b : Nat) : Option Ordering := FloatKind.f64.format.order a b
def nanB (a : Nat) : Bool := cmpF a a != some .eq
def nullB (a : Nat) : Bool := cmpF a 0 == some .eq
def sgF (a : Nat) : Bool := decide (IntKind.i64.wrap (a : Int) < 0)
def rankI (n z s : Bool) : Int := bif n then 0 else bif z && s then 1 else 2
def sgn1 (x : Int) : Int := min (max x (-1)) 1
def ordG (n1 n2 l g : Bool) (r1 r2 : Int) : Int := bif n1 || n2 then sgn1 (min r1 1 - min r2 1) else bif l then -1 else bif g then 1 else sgn1 (r1 - r2)
def rankF (a : Nat) : Int := rankI (nanB a) (nullB a) (sgF a)
def ordF (a b : Nat) : Int := ordG (nanB a) (nanB b) (cmpF a b == some .lt) (cmpF a b == some .gt) (rankF a) (rankF b)
def sgn3 (u v : Int) : Int := if u < v then -1 else if v < u then 1 else 0

theorem sgF_eq {a : Nat} (h : W64 a) : sgF a = negW a := by
  unfold sgF negW W64 at *
  have h3 : a / 2 ^ 63 < 2 := by omega
  rw [Nat.mod_eq_of_lt h3, Bool.eq_iff_iff]
  simp only [decide_eq_true_eq, beq_iff_eq]
  unfold IntKind.wrap
  simp only [IntKind.signed, IntKind.bits, Bool.true_and, decide_eq_true_eq, ge_iff_le]
  have e1 : (2 : Int) ^ 64 = 18446744073709551616 := by decide
  have e2 : (2 : Int) ^ (64 - 1) = 9223372036854775808 := by decide
  rw [e1, e2]
  split <;> omega
theorem cmpF_eq (a b : Nat) : cmpF a b = ordW a b := rfl
theorem compare_eq {x y : Int} : compare x y = .eq ↔ x = y := by
  rw [cmp_int]; split <;> simp_all; omega
theorem compare_lt {x y : Int} : compare x y = .lt ↔ x < y := by
  rw [cmp_int]; split <;> simp_all; split <;> simp <;> omega
theorem compare_gt {x y : Int} : compare x y = .gt ↔ y < x := by
  rw [cmp_int]; split <;> simp_all <;> (try split <;> simp_all) <;> omega
theorem nanB_eq (a : Nat) : nanB a = nanW a := by
  unfold nanB nanW
  rw [cmpF_eq]
  cases h : (rd64 a).isNaN with
  | true => rw [show ordW a a = none from order_nan.2 (.inl h)]; rfl
  | false =>
    obtain ⟨k, _, hk, _⟩ := keysW a a a h h h
    rw [hk a (by simp) a (by simp), compare_eq.2 rfl]; rfl
theorem ordKey (a b c : Nat) : ∃ K : Nat → Int, ∀ x ∈ [a, b, c], ∀ y ∈ [a, b, c], W64 x → W64 y → ordF x y = sgn3 (K x) (K y) ∧ (K x = K y ↔ x = y ∨ nanB x = true ∧ nanB y = true) := by
  have h0 : nanW 0 = false := by decide
  let p : Nat → Nat := fun x => if nanW x = true then 0 else x
  have hp : ∀ x, nanW (p x) = false := fun x => by
    simp only [p]; split
    · exact h0
    · rename_i h; simpa using h
  obtain ⟨k, k0, hk, hs, hi⟩ := keysW (p a) (p b) (p c) (hp a) (hp b) (hp c)
  have mem : ∀ x ∈ [a, b, c], nanW x = false → x ∈ [p a, p b, p c, 0] := by
    intro x hx hn
    have e : p x = x := by simp [p, hn]
    simp only [List.mem_cons, List.not_mem_nil, or_false] at hx ⊢
    rcases hx with rfl | rfl | rfl
    · exact .inl e.symm
    · exact .inr (.inl e.symm)
    · exact .inr (.inr (.inl e.symm))
  let B : Int := 2 * ((k (p a)).natAbs + (k (p b)).natAbs + (k (p c)).natAbs) + 2
  have hB : ∀ x ∈ [a, b, c], nanW x = false → -B < 2 * k x - 1 := by
    intro x hx hn
    have := mem x hx hn
    have e : p x = x := by simp [p, hn]
    simp only [List.mem_cons, List.not_mem_nil, or_false] at hx
    rcases hx with rfl | rfl | rfl <;> simp only [B] <;> rw [e] <;> omega
  refine ⟨fun x => if nanW x = true then -B else 2 * k x - (if k x = 0 ∧ negW x = true then 1 else 0), fun x hx y hy wx wy => ?_⟩
  have hBx := hB x hx
  have hBy := hB y hy
  unfold ordF ordG rankF rankI
  rw [nanB_eq, nanB_eq, sgF_eq wx, sgF_eq wy]
  simp only []
  cases nx : nanW x with
  | true =>
    cases ny : nanW y with
    | true => simp [sgn1, sgn3]; omega
    | false =>
      have := hBy ny
      simp only [Bool.true_or, cond_true, Bool.cond_false, if_true, Bool.false_eq_true, if_false, and_false, or_false]
      refine ⟨?_, ?_⟩
      · cases nullB y && negW y <;> simp only [cond_true, cond_false, sgn1, sgn3] <;> split <;> omega
      · constructor
        · intro h; split at h <;> omega
        · rintro rfl; rw [nx] at ny; cases ny
  | false =>
    have hmx := mem x hx nx
    have hbx := hBx nx
    cases ny : nanW y with
    | true =>
      simp only [Bool.or_true, cond_true, Bool.cond_false, if_true, Bool.false_eq_true, if_false, false_and, or_false]
      refine ⟨?_, ?_⟩
      · cases nullB x && negW x <;> simp only [cond_true, cond_false, sgn1, sgn3] <;> split <;> omega
      · constructor
        · intro h; split at h <;> omega
        · rintro rfl; rw [nx] at ny; cases ny
    | false =>
      have hmy := mem y hy ny
      have e1 : cmpF x y = some (compare (k x) (k y)) := hk x hmx y hmy
      have ex : nullB x = decide (k x = 0) := by
        unfold nullB
        rw [show cmpF x 0 = some (compare (k x) (k 0)) from hk x hmx 0 (by simp), k0, Bool.eq_iff_iff]
        simp
      have ey : nullB y = decide (k y = 0) := by
        unfold nullB
        rw [show cmpF y 0 = some (compare (k y) (k 0)) from hk y hmy 0 (by simp), k0, Bool.eq_iff_iff]
        simp
      have el : (cmpF x y == some .lt) = decide (k x < k y) := by rw [e1, Bool.eq_iff_iff]; simp [compare_lt]
      have eg : (cmpF x y == some .gt) = decide (k y < k x) := by rw [e1, Bool.eq_iff_iff]; simp [compare_gt]
      rw [ex, ey, el, eg]
      simp only [Bool.or_self, Bool.cond_false, Bool.false_eq_true, if_false, false_and, or_false]
      have inj : k x = k y → (k x ≠ 0 ∨ negW x = negW y) → x = y := fun h h' => hi x hmx y hmy wx wy h h'
      have same : x = y → k x = k y ∧ negW x = negW y := by rintro rfl; exact ⟨rfl, rfl⟩
      generalize k x = u at *
      generalize k y = v at *
      by_cases h1 : u < v
      · have h2 : ¬ v < u := by omega
        simp only [h1, h2, decide_true, decide_false, cond_true, cond_false]
        refine ⟨?_, ?_⟩
        · unfold sgn3; rw [if_pos]; split <;> split <;> omega
        · constructor
          · intro h; split at h <;> split at h <;> omega
          · intro h; have := (same h).1; omega
      · by_cases h2 : v < u
        · simp only [h1, h2, decide_true, decide_false, cond_true, cond_false]
          refine ⟨?_, ?_⟩
          · unfold sgn3; rw [if_neg, if_pos] <;> split <;> split <;> omega
          · constructor
            · intro h; split at h <;> split at h <;> omega
            · intro h; have := (same h).1; omega
        · have h3 : u = v := by omega
          subst h3
          simp only [h1, decide_false, cond_false]
          by_cases h4 : u = 0
          · cases h5 : negW x <;> cases h6 : negW y <;> rw [h5, h6] at inj same <;> simp only [h4, decide_true, Bool.and_false, Bool.and_true, cond_true, cond_false, sgn1, sgn3, Bool.false_eq_true, if_true, if_false, and_false, and_true]
            · exact ⟨by omega, ⟨fun _ => inj rfl (.inr rfl), fun _ => by first | trivial | rfl⟩⟩
            · exact ⟨by omega, ⟨fun h => absurd h (by decide), fun h => by have := (same h).2; cases this⟩⟩
            · exact ⟨by omega, ⟨fun h => absurd h (by decide), fun h => by have := (same h).2; cases this⟩⟩
            · exact ⟨by omega, ⟨fun _ => inj rfl (.inr rfl), fun _ => by first | trivial | rfl⟩⟩
          · simp only [h4, decide_false, Bool.false_and, cond_false, false_and, if_false, sgn1, sgn3]
            exact ⟨by omega, ⟨fun _ => inj rfl (.inl h4), fun _ => by first | rfl | trivial⟩⟩
/-- The same order, told by signs. -/
def refG (n1 n2 l g s1 s2 : Bool) : Int := bif n1 && n2 then 0 else bif n1 then -1 else bif n2 then 1 else bif l then -1 else bif g then 1 else bif s1 && !s2 then -1 else bif s2 && !s1 then 1 else 0
def refF (a b : Nat) : Int := refG (nanB a) (nanB b) (cmpF a b == some .lt) (cmpF a b == some .gt) (sgF a) (sgF b)
theorem ordF_ref {a b : Nat} (wa : W64 a) (wb : W64 b) : ordF a b = refF a b := by
  have hl : ∀ (z s : Bool), sgn1 (min (bif z && s then 1 else 2) 1 - min 0 1) = 1 ∧ sgn1 (min 0 1 - min (bif z && s then 1 else 2) 1) = -1 := by decide
  unfold ordF refF ordG refG rankF rankI
  cases na : nanB a with
  | true =>
    cases nb : nanB b with
    | true => simp only [Bool.or_self, Bool.and_self, cond_true]; decide
    | false => simp only [Bool.true_or, Bool.and_false, cond_true, cond_false]; exact (hl _ _).2
  | false =>
    cases nb : nanB b with
    | true => simp only [Bool.or_true, Bool.and_true, cond_true, cond_false]; exact (hl _ _).1
    | false =>
      have na' : nanW a = false := by rw [← nanB_eq]; exact na
      have nb' : nanW b = false := by rw [← nanB_eq]; exact nb
      obtain ⟨k, k0, hk, hs, _⟩ := keysW a b a na' nb' na'
      have e1 : cmpF a b = some (compare (k a) (k b)) := hk a (by simp) b (by simp)
      have ex : nullB a = decide (k a = 0) := by
        unfold nullB
        rw [show cmpF a 0 = some (compare (k a) (k 0)) from hk a (by simp) 0 (by simp), k0, Bool.eq_iff_iff]
        first | (simp; done) | simp [compare_eq]
      have ey : nullB b = decide (k b = 0) := by
        unfold nullB
        rw [show cmpF b 0 = some (compare (k b) (k 0)) from hk b (by simp) 0 (by simp), k0, Bool.eq_iff_iff]
        first | (simp; done) | simp [compare_eq]
      have el : (cmpF a b == some .lt) = decide (k a < k b) := by rw [e1, Bool.eq_iff_iff]; simp [compare_lt]
      have eg : (cmpF a b == some .gt) = decide (k b < k a) := by rw [e1, Bool.eq_iff_iff]; simp [compare_gt]
      have ha := hs a (by simp)
      have hb := hs b (by simp)
      rw [ex, ey, el, eg, sgF_eq wa, sgF_eq wb]
      simp only [Bool.or_self, Bool.and_self, cond_false]
      generalize k a = u at *
      generalize k b = v at *
      by_cases h1 : u < v
      · simp only [h1, decide_true, cond_true]
      · by_cases h2 : v < u
        · simp only [h1, h2, decide_true, decide_false, cond_true, cond_false]
        · have h3 : u = v := by omega
          subst h3
          simp only [h1, decide_false, cond_false]
          by_cases h4 : u = 0
          · simp only [h4, decide_true, Bool.true_and]
            cases negW a <;> cases negW b <;> decide
          · simp only [h4, decide_false, Bool.false_and, cond_false]
            have hn : negW a = negW b := by
              rcases Int.lt_or_gt_of_ne h4 with h | h
              · rw [ha.1 h, hb.1 h]
              · rw [ha.2 h, hb.2 h]
            rw [hn]
            cases negW b <;> decide
end Go.Ev
