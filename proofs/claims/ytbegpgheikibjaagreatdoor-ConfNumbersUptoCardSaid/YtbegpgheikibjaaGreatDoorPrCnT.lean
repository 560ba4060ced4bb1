/- options: what is written is read as it was, plain. -/
import Derived.Test.YtbegpgheikibjaaGreatDoorPrCnK
import Derived.Test.YtbegpgheikibjaaGreatDoorPrCnO
namespace Go.Proofs.Cn
open Go Go.RowKit Go.Pl Go.Maps Go.Proofs.Sa Go.Lib
theorem hexC_58 : ∀ k, k < 16 → hexC k ≠ 58 := by decide
theorem hexD_C : ∀ k, k < 16 → hexD (hexC k) = some k := by decide
theorem four_58 (m : Nat) : ∀ x ∈ four m, x ≠ 58 := by
  intro x hx
  simp only [four, List.mem_cons, List.not_mem_nil, or_false] at hx
  rcases hx with rfl | rfl | rfl | rfl <;> exact hexC_58 _ (hexAt_lt _ _)
theorem hexL_four (m : Nat) : hexL (four m) = some (m % 65536) := by
  have h : hexL (four m) = hexV 0 (four m) := by
    unfold hexL
    rw [if_neg (fun h => by
      rcases h with h | h
      · cases h
      · rw [four_len] at h; omega)]
  rw [h]
  show hexV 0 [hexC (hexAt m 0), hexC (hexAt m 1), hexC (hexAt m 2), hexC (hexAt m 3)] = _
  rw [hexV_step (hexD_C _ (hexAt_lt m 0)), hexV_step (hexD_C _ (hexAt_lt m 1)), hexV_step (hexD_C _ (hexAt_lt m 2)), hexV_step (hexD_C _ (hexAt_lt m 3))]
  show some _ = _
  congr 1
  have e0 : hexAt m 0 = m / 4096 % 16 := rfl
  have e1 : hexAt m 1 = m / 256 % 16 := rfl
  have e2 : hexAt m 2 = m / 16 % 16 := rfl
  have e3 : hexAt m 3 = m / 1 % 16 := rfl
  rw [e0, e1, e2, e3]; omega
theorem id_back (n : Nat) (hn : n < 18446744073709551616) : idR (identL n) = ((n : Int), 0) := by
  have hc : cutAt 58 (identL n) = [four (n / 281474976710656), four (n / 4294967296), four (n / 65536), four n] := by
    unfold identL
    rw [cutAt_app 58 _ _ (four_58 _), cutAt_app 58 _ _ (four_58 _), cutAt_app 58 _ _ (four_58 _), cutAt_all 58 _ (four_58 _)]
  refine idR_some ?_
  unfold idO
  rw [hc, if_pos (show ([four (n / 281474976710656), four (n / 4294967296), four (n / 65536), four n] : List (List UInt8)).length = 4 from rfl), idF_step (hexL_four _), idF_step (hexL_four _), idF_step (hexL_four _), idF_step (hexL_four _)]
  exact congrArg some (by omega)
theorem ident_len (n : Nat) : (identL n).length = 19 := rfl
theorem digL_dd : ∀ k, k < 256 → digL (dd k) = some k := by decide +kernel
theorem ip_text {a b c d : Nat} (ha : a < 256) (hb : b < 256) (hc : c < 256) (hd : d < 256) : ipO (textA a b c d) = some (((a * 256 + b) * 256 + c) * 256 + d) := by
  have h : cutAt 46 (textA a b c d) = [dd a, dd b, dd c, dd d] := by
    unfold textA
    rw [cut_app _ _ (dot_dd a ha), cut_app _ _ (dot_dd b hb), cut_app _ _ (dot_dd c hc), cut_all _ (dot_dd d hd)]
  unfold ipO
  rw [h, if_pos (show ([dd a, dd b, dd c, dd d] : List (List UInt8)).length = 4 from rfl), ipF_step (digL_dd a ha) (by omega), ipF_step (digL_dd b hb) (by omega), ipF_step (digL_dd c hc) (by omega), ipF_step (digL_dd d hd) (by omega)]
  exact congrArg some (by omega)
theorem ip_back (a : Int) (h : textE a = 0) : ipR (textR a).data.toList = (a, 0) := by
  unfold textE at h
  split at h
  · cases h
  · rename_i hr
    obtain ⟨n, rfl⟩ : ∃ n : Nat, a = n := ⟨a.toNat, by omega⟩
    have e : (textR n).data.toList = textA (n / 16777216 % 256) (n / 65536 % 256) (n / 256 % 256) (n % 256) := by unfold textR; rw [if_neg hr]; rfl
    rw [e, ipR_some (ip_text (Nat.mod_lt _ (by decide)) (Nat.mod_lt _ (by decide)) (Nat.mod_lt _ (by decide)) (Nat.mod_lt _ (by decide)))]
    congr 1
    have : n ≤ 4294967295 := by omega
    omega
theorem text_len (a : Int) : (textR a).size ≤ 1048576 := by
  unfold textR
  split
  · decide
  · have h1 := dd_len (a.toNat / 16777216 % 256); have h2 := dd_len (a.toNat / 65536 % 256); have h3 := dd_len (a.toNat / 256 % 256); have h4 := dd_len (a.toNat % 256)
    show (textA _ _ _ _).toArray.size ≤ _
    simp [textA]; omega
end Go.Proofs.Cn
