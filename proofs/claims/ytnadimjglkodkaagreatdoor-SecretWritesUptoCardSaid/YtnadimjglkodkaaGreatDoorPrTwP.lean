/- secrets: addresses of words, one by one, in plain Lean. -/
import Derived.Test.YtnadimjglkodkaaGreatDoorPrSrP
namespace Go.Proofs.Sr
open Go Go.Pl Go.Lib Go.Proofs.Sa
theorem octet_lt {p : List UInt8} {v : Nat} (h : octet p = some v) : v < 256 := (octet_some h).1
theorem partsA_lt : ∀ (k n : Nat) (l : List (List UInt8)) (r : Nat), partsA k n l = some r → r < (n + 1) * 256 ^ k
  | 0, _, _, _, h => by simp [partsA] at h
  | _ + 1, _, [], _, h => by simp [partsA] at h
  | k + 1, n, [p], r, h => by
    unfold partsA at h
    split at h
    · rename_i hk
      cases ho : octet p with
      | none => rw [ho] at h; cases h
      | some v =>
        rw [ho] at h
        have hv := octet_lt ho
        have : n * 256 + v = r := by simpa using h
        subst hk
        simp; omega
    · cases h
  | k + 1, n, p :: q :: ps, r, h => by
    unfold partsA at h
    split at h
    · cases h
    · cases ho : octet p with
      | none => rw [ho] at h; cases h
      | some v =>
        rw [ho] at h
        have hv := octet_lt ho
        have h2 := partsA_lt k (n * 256 + v) (q :: ps) r h
        refine Nat.lt_of_lt_of_le h2 ?_
        rw [Nat.pow_succ, Nat.mul_comm (256 ^ k) 256, ← Nat.mul_assoc]
        exact Nat.mul_le_mul_right _ (by omega)
theorem addrR_range (l : List UInt8) : 0 ≤ (addrR l).1 ∧ (addrR l).1 < 4294967296 ∧ ((addrR l).2 = 0 ∨ (addrR l).2 = 150) := by
  unfold addrR
  cases h : addrOf l with
  | none => exact ⟨by decide, by decide, .inr rfl⟩
  | some r =>
    have := partsA_lt 4 0 _ r h
    simp at this
    exact ⟨by simp, by simp; omega, .inl rfl⟩
theorem addrR_wf (l : List UInt8) : (Lit.int .i64 (addrR l).1).wf = true := by
  obtain ⟨h1, h2, _⟩ := addrR_range l
  have : Go.RowKit.wrap64 (addrR l).1 = (addrR l).1 := by unfold Go.RowKit.wrap64; omega
  rw [← this]
  exact Go.RowKit.wrap64_wf _
theorem adrs_wf (ws : List (List UInt8)) : ∀ z ∈ adrs ws, (Lit.int .i64 z).wf = true := by
  intro z hz
  obtain ⟨w, _, rfl⟩ := List.mem_map.1 hz
  exact addrR_wf w
theorem adrs_snoc (ws : List (List UInt8)) (x : List UInt8) : adrs (ws ++ [x]) = adrs ws ++ [(addrR x).1] := by simp [adrs]
theorem bads_snoc : ∀ (ws : List (List UInt8)) (x : List UInt8), bads (ws ++ [x]) = if bads ws ≠ 0 then bads ws else (addrR x).2
  | [], x => by
    show (if (addrR x).2 ≠ 0 then (addrR x).2 else 0) = _
    by_cases h : (addrR x).2 = 0 <;> simp [h, bads]
  | w :: ws, x => by
    show (if (addrR w).2 ≠ 0 then (addrR w).2 else bads (ws ++ [x])) = _
    rw [bads_snoc ws x]
    by_cases h : (addrR w).2 = 0
    · simp [h, bads]
    · simp [h, bads]
theorem bads_range : ∀ (ws : List (List UInt8)), bads ws = 0 ∨ bads ws = 150
  | [] => .inl rfl
  | w :: ws => by
    show (if (addrR w).2 ≠ 0 then (addrR w).2 else bads ws) = 0 ∨ (if (addrR w).2 ≠ 0 then (addrR w).2 else bads ws) = 150
    rcases (addrR_range w).2.2 with h | h
    · rw [h]; exact bads_range ws
    · rw [h]; exact .inr rfl
theorem quoS_len : ∀ (n : Nat) (r acc w q : List UInt8), r.length ≤ n → quoS acc r = some (w, q) → w.length + q.length ≤ acc.length + r.length
  | 0, r, acc, w, q, hn, h => by
    obtain rfl : r = [] := List.length_eq_zero_iff.1 (by omega)
    simp [quoS] at h
  | n + 1, [], acc, w, q, _, h => by simp [quoS] at h
  | n + 1, c :: r, acc, w, q, hn, h => by
    have hr : r.length ≤ n := by simpa using hn
    by_cases h1 : c.toNat = 34
    · rw [quoS_end h1] at h
      split at h
      · obtain ⟨rfl, rfl⟩ : acc = w ∧ r = q := by simpa using h
        simp
      · cases h
    by_cases h2 : c.toNat = 92
    · cases r with
      | nil => rw [quoS_cut h2] at h; cases h
      | cons d r =>
        by_cases hd : d.toNat = 34 ∨ d.toNat = 92
        · rw [quoS_esc h2 hd] at h
          have hl := quoS_len n r _ w q (by simp at hr; omega) h
          simp at hl ⊢; omega
        · rw [quoS_noesc h2 hd] at h; cases h
    rw [quoS_step h1 h2] at h
    have hl := quoS_len n r _ w q hr h
    simp at hl ⊢; omega
theorem bareS_le : ∀ (l : List UInt8) (n : Nat), bareS l = some n → n ≤ l.length
  | [], n, h => by
    have : 0 = n := by simpa [bareS] using h
    omega
  | c :: r, n, h => by
    unfold bareS at h
    split at h
    · have : 0 = n := by simpa using h
      omega
    · split at h
      · cases h
      · cases hb : bareS r with
        | none => rw [hb] at h; cases h
        | some k =>
          rw [hb] at h
          have := bareS_le r k hb
          have : k + 1 = n := by simpa using h
          simp; omega
/-- Words are no longer than the line, and no more. -/
theorem wordsS_len : ∀ (k : Nat) (acc : List (List UInt8)) (l : List UInt8) (ws : List (List UInt8)), wordsS k acc l = some ws → (∀ w ∈ ws, w ∈ acc ∨ w.length ≤ l.length) ∧ ws.length ≤ acc.length + k
  | 0, _, _, _, h => by cases h
  | k + 1, acc, [], ws, h => by
    have : acc = ws := by simpa [wordsS] using h
    subst this
    exact ⟨fun w hw => .inl hw, by omega⟩
  | k + 1, acc, c :: r, ws, h => by
    unfold wordsS at h
    split at h
    · obtain ⟨h1, h2⟩ := wordsS_len k acc r ws h
      refine ⟨fun w hw => ?_, by omega⟩
      rcases h1 w hw with h3 | h3
      · exact .inl h3
      · exact .inr (by simp; omega)
    · split at h
      · have : acc = ws := by simpa using h
        subst this
        exact ⟨fun w hw => .inl hw, by omega⟩
      · split at h
        · cases hq : quoS [] r with
          | none => rw [hq] at h; cases h
          | some xy =>
            obtain ⟨x, y⟩ := xy
            rw [hq] at h
            have hl := quoS_len r.length r [] x y (Nat.le_refl _) hq
            obtain ⟨h1, h2⟩ := wordsS_len k _ y ws h
            simp only [List.length_append, List.length_singleton, List.length_nil] at h2 hl
            refine ⟨fun w hw => ?_, by omega⟩
            rcases h1 w hw with h3 | h3
            · rcases List.mem_append.1 h3 with h3 | h3
              · exact .inl h3
              · obtain rfl := List.mem_singleton.1 h3
                exact .inr (by simp; omega)
            · exact .inr (by simp; omega)
        · cases hb : bareS (c :: r) with
          | none => rw [hb] at h; cases h
          | some n =>
            rw [hb] at h
            obtain ⟨h1, h2⟩ := wordsS_len k _ _ ws h
            simp only [List.length_append, List.length_singleton, List.length_drop] at h1 h2
            refine ⟨fun w hw => ?_, by omega⟩
            rcases h1 w hw with h3 | h3
            · rcases List.mem_append.1 h3 with h3 | h3
              · exact .inl h3
              · obtain rfl := List.mem_singleton.1 h3
                exact .inr (by rw [List.length_take]; exact Nat.min_le_right _ _)
            · exact .inr (by simp at h3 ⊢; omega)
theorem cutAt_count (c : UInt8) : ∀ l : List UInt8, (cutAt c l).length ≤ l.length + 1
  | [] => by simp [cutAt]
  | b :: l => by
    have ih := cutAt_count c l
    unfold cutAt
    split
    · simp; omega
    · simp; omega
theorem lineS_long {s : List UInt8} (h : 1024 < s.length) : lineS s = .error 4 := by unfold lineS; rw [if_pos h]
theorem lineS_none {s : List UInt8} (h : ¬ 1024 < s.length) (hw : wordsS (s.length + 1) [] s = none) : lineS s = .error 50 := by unfold lineS; rw [if_neg h, hw]
theorem lineS_zero {s : List UInt8} (h : ¬ 1024 < s.length) (hw : wordsS (s.length + 1) [] s = some []) : lineS s = .ok none := by unfold lineS; rw [if_neg h, hw]
theorem lineS_few {s : List UInt8} (h : ¬ 1024 < s.length) {ws : List (List UInt8)} (hw : wordsS (s.length + 1) [] s = some ws) (hn : ws.length = 1 ∨ ws.length = 2) : lineS s = .error 50 := by
  unfold lineS; rw [if_neg h, hw]
  match ws, hn with
  | [_], _ => rfl
  | [_, _], _ => rfl
theorem lineS_bad {s : List UInt8} (h : ¬ 1024 < s.length) {c sv wd : List UInt8} {ws : List (List UInt8)} (hw : wordsS (s.length + 1) [] s = some (c :: sv :: wd :: ws)) (hy : whyP c sv wd ws ≠ 0) : lineS s = .error (whyP c sv wd ws) := by
  unfold lineS; rw [if_neg h, hw]; simp only [if_pos hy]
theorem lineS_good {s : List UInt8} (h : ¬ 1024 < s.length) {c sv wd : List UInt8} {ws : List (List UInt8)} (hw : wordsS (s.length + 1) [] s = some (c :: sv :: wd :: ws)) (hy : whyP c sv wd ws = 0) : lineS s = .ok (some (c, sv, wd, adrs ws)) := by
  unfold lineS; rw [if_neg h, hw]; simp only [hy, ne_eq, not_true, if_false]
end Go.Proofs.Sr
