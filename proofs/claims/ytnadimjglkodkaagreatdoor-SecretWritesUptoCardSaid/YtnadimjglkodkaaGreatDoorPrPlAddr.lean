/- Addresses as text: what a text at its dots gives, and what a reader from the left gives. -/
import Derived.Test.YtnadimjglkodkaaGreatDoorPrPlCut
namespace Go.Pl
open Go.Lib

def dig (c : UInt8) : Bool := decide (48 ≤ c.toNat) && decide (c.toNat ≤ 57)
/-- At most k digits ahead: how many, and what they come to. -/
def heads : Nat → Nat → List UInt8 → Nat × Nat
  | 0, v, _ => (0, v)
  | _, v, [] => (0, v)
  | k + 1, v, c :: l => if dig c then ((heads k (v * 10 + (c.toNat - 48)) l).1 + 1, (heads k (v * 10 + (c.toNat - 48)) l).2) else (0, v)
/-- Is what stands ahead no number of an address? -/
def badHead (m v : Nat) (l : List UInt8) : Bool := m == 0 || decide (255 < v) || (decide (1 < m) && (l.headD 0).toNat == 48)
def octet (p : List UInt8) : Option Nat := if badHead (heads 3 0 p).1 (heads 3 0 p).2 p || !((heads 3 0 p).1 == p.length) then none else some (heads 3 0 p).2
/-- A reader from the left: k numbers are still to come. -/
def readA : Nat → Nat → List UInt8 → Option Nat
  | 0, _, _ => none
  | k + 1, n, l =>
    if badHead (heads 3 0 l).1 (heads 3 0 l).2 l then none
    else if k = 0 then (if l.drop (heads 3 0 l).1 = [] then some (n * 256 + (heads 3 0 l).2) else none)
    else match l.drop (heads 3 0 l).1 with
      | [] => none
      | c :: r => if c.toNat = 46 then readA k (n * 256 + (heads 3 0 l).2) r else none
/-- Its parts: k of them. -/
def partsA : Nat → Nat → List (List UInt8) → Option Nat
  | 0, _, _ => none
  | _, _, [] => none
  | k + 1, n, [p] => if k = 0 then (octet p).map (n * 256 + ·) else none
  | k + 1, n, p :: q :: ps => if k = 0 then none else (octet p).bind fun v => partsA k (n * 256 + v) (q :: ps)
def addrOf (l : List UInt8) : Option Nat := partsA 4 0 (cutAt 46 l)

theorem heads_le : ∀ (k v : Nat) (l : List UInt8), (heads k v l).1 ≤ l.length
  | 0, _, _ => Nat.zero_le _
  | _ + 1, _, [] => Nat.zero_le _
  | k + 1, v, c :: l => by
    unfold heads
    split
    · have := heads_le k (v * 10 + (c.toNat - 48)) l
      simp; omega
    · exact Nat.zero_le _
theorem heads_le_k : ∀ (k v : Nat) (l : List UInt8), (heads k v l).1 ≤ k
  | 0, _, _ => Nat.zero_le _
  | _ + 1, _, [] => Nat.zero_le _
  | k + 1, v, c :: l => by
    unfold heads
    split
    · have := heads_le_k k (v * 10 + (c.toNat - 48)) l
      simp; omega
    · exact Nat.zero_le _
/-- A rest that begins with no digit is not looked at. -/
theorem heads_append : ∀ (k v : Nat) (p t : List UInt8), (∀ c ∈ t.head?, dig c = false) → heads k v (p ++ t) = heads k v p
  | 0, _, _, _, _ => by simp [heads]
  | k + 1, v, [], t, h => by
    cases t with
    | nil => rfl
    | cons c t =>
      have := h c (by simp)
      simp [heads, this]
  | k + 1, v, c :: p, t, h => by
    simp only [List.cons_append, heads]
    rw [heads_append k _ p t h]
theorem dot_dig {c : UInt8} (h : c.toNat = 46) : dig c = false := by unfold dig; rw [h]; rfl
theorem badHead_append (m v : Nat) (p t : List UInt8) (hm : m ≤ p.length) : badHead m v (p ++ t) = badHead m v p := by
  unfold badHead
  cases p with
  | nil => obtain rfl : m = 0 := by simpa using hm
           rfl
  | cons c p => rfl

/-- Where a text has its first dot. -/
theorem cut_cases (l : List UInt8) : (∃ p r, l = p ++ 46 :: r ∧ (∀ c ∈ p, c ≠ 46) ∧ cutAt 46 l = p :: cutAt 46 r) ∨ ((∀ c ∈ l, c ≠ 46) ∧ cutAt 46 l = [l]) := by
  induction l with
  | nil => exact .inr ⟨by simp, rfl⟩
  | cons b l ih =>
    by_cases hb : b = 46
    · subst hb
      exact .inl ⟨[], l, rfl, by simp, by simp [cutAt]⟩
    · rcases ih with ⟨p, r, rfl, hp, hc⟩ | ⟨hl, hc⟩
      · refine .inl ⟨b :: p, r, rfl, ?_, ?_⟩
        · intro c hc'
          rcases List.mem_cons.1 hc' with rfl | h
          · exact hb
          · exact hp c h
        · show cutAt 46 (b :: (p ++ 46 :: r)) = _
          conv => lhs; unfold cutAt
          rw [if_neg hb, hc]; rfl
      · refine .inr ⟨?_, ?_⟩
        · intro c hc'
          rcases List.mem_cons.1 hc' with rfl | h
          · exact hb
          · exact hl c h
        · unfold cutAt; rw [if_neg hb, hc]; rfl

theorem readA_parts : ∀ (k n : Nat) (l : List UInt8), readA k n l = partsA k n (cutAt 46 l)
  | 0, n, l => by cases h : cutAt 46 l <;> rfl
  | k + 1, n, l => by
    rcases cut_cases l with ⟨p, r, rfl, hp, hc⟩ | ⟨hl, hc⟩
    · rw [hc, cutAt_cons 46 r]
      have hd : ∀ c ∈ (46 :: r : List UInt8).head?, dig c = false := by intro c hc; simp at hc; subst hc; rfl
      have hle := heads_le 3 0 p
      have ih := fun v => readA_parts k (n * 256 + v) r
      rw [cutAt_cons 46 r] at ih
      unfold readA partsA
      rw [heads_append 3 0 p _ hd, badHead_append _ _ _ _ hle]
      unfold octet
      revert hle
      generalize heads 3 0 p = z
      obtain ⟨m, v⟩ := z
      intro hle
      simp only at hle ⊢
      cases hbad : badHead m v p
      · by_cases hm : m = p.length
        · subst hm
          simp only [List.drop_left, beq_self_eq_true, Bool.not_true, Bool.or_false, Bool.false_eq_true, if_false]
          by_cases hk : k = 0
          · simp [hk]
          · simp only [hk, if_false, Option.bind_some]
            rw [if_pos (by rfl)]
            exact ih v
        · have hlt : m < p.length := by omega
          have hdrop : (p ++ 46 :: r).drop m = p[m] :: (p ++ 46 :: r).drop (m + 1) := by
            rw [List.drop_eq_getElem_cons (by simp; omega)]
            congr 1
            rw [List.getElem_append_left hlt]
          have hne : ¬ (p[m]).toNat = 46 := fun h => hp _ (List.getElem_mem hlt) (UInt8.toNat_inj.1 (by rw [h]; rfl))
          have hmb : (m == p.length) = false := by simpa using hm
          simp only [hdrop, if_neg hne, Bool.false_eq_true, if_false, Bool.false_or, hmb, Bool.not_false, if_true, Option.bind_none]
          simp
      · simp
    · rw [hc]
      have hle := heads_le 3 0 l
      unfold readA partsA octet
      revert hle
      generalize heads 3 0 l = z
      obtain ⟨m, v⟩ := z
      intro hle
      simp only at hle ⊢
      cases hbad : badHead m v l
      · by_cases hm : m = l.length
        · subst hm
          simp only [List.drop_length, beq_self_eq_true, Bool.not_true, Bool.or_false, Bool.false_eq_true, if_false, if_true, Option.map_some]
        · have hlt : m < l.length := by omega
          have hdrop : l.drop m = l[m] :: l.drop (m + 1) := List.drop_eq_getElem_cons hlt
          have hne : ¬ (l[m]).toNat = 46 := fun h => hl _ (List.getElem_mem hlt) (UInt8.toNat_inj.1 (by rw [h]; rfl))
          have hmb : (m == l.length) = false := by simpa using hm
          simp only [hdrop, if_neg hne, Bool.false_eq_true, if_false, Bool.false_or, hmb, Bool.not_false, if_true, Option.map_none]
          simp; omega
      · simp

/-! ### numbers up to 255 -/
def dd (k : Nat) : List UInt8 := if k < 10 then [UInt8.ofNat (48 + k)] else if k < 100 then [UInt8.ofNat (48 + k / 10), UInt8.ofNat (48 + k % 10)] else [UInt8.ofNat (48 + k / 100), UInt8.ofNat (48 + k / 10 % 10), UInt8.ofNat (48 + k % 10)]
theorem decDigits_dd {k : Nat} (h : k < 256) : decDigits k = dd k := by
  unfold dd
  split
  · rw [decDigits, dif_pos (by assumption)]
  · split
    · rw [decDigits, dif_neg (by assumption), decDigits, dif_pos (by omega)]; rfl
    · rw [decDigits, dif_neg (by assumption), decDigits, dif_neg (by omega), decDigits, dif_pos (by omega)]
      have : k / 10 / 10 = k / 100 := by omega
      rw [this]; rfl
theorem octet_dd : ∀ k, k < 256 → octet (dd k) = some k := by decide +kernel
theorem atoi_dd : ∀ k, k < 256 → atoiAll (dd k) = .ok (k : Int) := by decide +kernel
theorem dot_dd : ∀ k, k < 256 → ∀ c ∈ dd k, c ≠ 46 := by decide +kernel
theorem dig_back {c : UInt8} (h : dig c = true) : 48 ≤ c.toNat ∧ c.toNat ≤ 57 ∧ c = UInt8.ofNat (48 + (c.toNat - 48)) := by
  unfold dig at h
  simp only [Bool.and_eq_true, decide_eq_true_eq] at h
  refine ⟨h.1, h.2, ?_⟩
  have : 48 + (c.toNat - 48) = c.toNat := by omega
  rw [this]; simp
theorem octet_some {p : List UInt8} {k : Nat} (h : octet p = some k) : k < 256 ∧ p = dd k := by
  unfold octet at h
  split at h
  · cases h
  · rename_i hb
    simp only [Bool.or_eq_true, not_or, Bool.not_eq_true', badHead, decide_eq_true_eq, Bool.and_eq_true, beq_iff_eq, not_and] at hb
    obtain ⟨⟨⟨h0, h1⟩, h2⟩, h3⟩ := hb
    injection h with h
    have h3 : (heads 3 0 p).1 = p.length := by simpa using h3
    have hle := heads_le_k 3 0 p
    refine ⟨by omega, ?_⟩
    match p, h, h0, h1, h2, h3 with
    | [], _, h0, _, _, _ => exact absurd rfl h0
    | [a], h, _, h1, _, h3 =>
      by_cases ha : dig a = true
      · obtain ⟨a1, a2, a3⟩ := dig_back ha
        simp [heads, ha] at h
        subst h
        unfold dd; rw [if_pos (by omega), ← a3]
      · simp [heads, ha] at h3
    | [a, b], h, _, h1, h2, h3 =>
      by_cases ha : dig a = true
      · by_cases hb : dig b = true
        · obtain ⟨a1, a2, a3⟩ := dig_back ha
          obtain ⟨b1, b2, b3⟩ := dig_back hb
          simp [heads, ha, hb] at h h2
          unfold dd; rw [if_neg (by omega), if_pos (by omega)]
          have e1 : k / 10 = a.toNat - 48 := by omega
          have e2 : k % 10 = b.toNat - 48 := by omega
          rw [e1, e2, ← a3, ← b3]
        · simp [heads, ha, hb] at h3
      · simp [heads, ha] at h3
    | [a, b, c], h, _, h1, h2, h3 =>
      by_cases ha : dig a = true
      · by_cases hb : dig b = true
        · by_cases hc : dig c = true
          · obtain ⟨a1, a2, a3⟩ := dig_back ha
            obtain ⟨b1, b2, b3⟩ := dig_back hb
            obtain ⟨c1, c2, c3⟩ := dig_back hc
            simp [heads, ha, hb, hc] at h h2
            unfold dd; rw [if_neg (by omega), if_neg (by omega)]
            have e1 : k / 100 = a.toNat - 48 := by omega
            have e2 : k / 10 % 10 = b.toNat - 48 := by omega
            have e3 : k % 10 = c.toNat - 48 := by omega
            rw [e1, e2, e3, ← a3, ← b3, ← c3]
          · simp [heads, ha, hb, hc] at h3
        · simp [heads, ha, hb] at h3
      · simp [heads, ha] at h3
    | a :: b :: c :: d :: p, _, _, _, _, h3 => simp at h3; omega
/-- What a number reader and a number writer ask, together. -/
theorem octet_iff (p : List UInt8) (k : Nat) : octet p = some k ↔ atoiAll p = .ok (k : Int) ∧ k < 256 ∧ decDigits k = p := by
  constructor
  · intro h
    obtain ⟨h1, rfl⟩ := octet_some h
    exact ⟨atoi_dd k h1, h1, decDigits_dd h1⟩
  · rintro ⟨_, h1, rfl⟩
    rw [decDigits_dd h1]; exact octet_dd k h1
/-! ### there and back -/
theorem cut_app : ∀ (p r : List UInt8), (∀ c ∈ p, c ≠ 46) → cutAt 46 (p ++ 46 :: r) = p :: cutAt 46 r
  | [], r, _ => by simp [cutAt]
  | b :: p, r, h => by
    have hb : ¬ b = 46 := h b (by simp)
    show cutAt 46 (b :: (p ++ 46 :: r)) = _
    conv => lhs; unfold cutAt
    rw [if_neg hb, cut_app p r (fun c hc => h c (by simp [hc]))]; rfl
theorem cut_all : ∀ (p : List UInt8), (∀ c ∈ p, c ≠ 46) → cutAt 46 p = [p]
  | [], _ => rfl
  | b :: p, h => by
    have hb : ¬ b = 46 := h b (by simp)
    unfold cutAt
    rw [if_neg hb, cut_all p (fun c hc => h c (by simp [hc]))]; rfl
/-- An address as text. -/
def textA (a b c d : Nat) : List UInt8 := dd a ++ 46 :: (dd b ++ 46 :: (dd c ++ 46 :: dd d))
theorem addr_text {a b c d : Nat} (ha : a < 256) (hb : b < 256) (hc : c < 256) (hd : d < 256) : addrOf (textA a b c d) = some (((a * 256 + b) * 256 + c) * 256 + d) := by
  unfold addrOf textA
  rw [cut_app _ _ (dot_dd a ha), cut_app _ _ (dot_dd b hb), cut_app _ _ (dot_dd c hc), cut_all _ (dot_dd d hd)]
  simp [partsA, octet_dd a ha, octet_dd b hb, octet_dd c hc, octet_dd d hd]
end Go.Pl
