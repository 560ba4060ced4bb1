/- secrets: AddrText. -/
import Derived.Maps.AppendAt
import Derived.OwnWalk
import Derived.Test.YtnadimjglkodkaaGreatDoorPrTzC
namespace Go.Proofs.Sa
open Go Go.RowKit Go.Pl Go.Maps
theorem info9 : (Tryz.prog.info? 9).map (fun i => (i.zero, i.size, i.bytes)) = some (some (.string ⟨#[]⟩), 1, 16) := by kernel_rfl
/-- The numbers of an address, from the left. -/
def numsA (a : Nat) : List Nat := [a / 16777216 % 256, a / 65536 % 256, a / 256 % 256, a % 256]
def strsA (a : Nat) : List ByteArray := (numsA a).map fun k => ⟨(dd k).toArray⟩
def textR (a : Int) : ByteArray := if a < 0 ∨ 4294967295 < a then ⟨#[]⟩ else ⟨(textA (a.toNat / 16777216 % 256) (a.toNat / 65536 % 256) (a.toNat / 256 % 256) (a.toNat % 256)).toArray⟩
def textE (a : Int) : Int := if a < 0 ∨ 4294967295 < a then 150 else 0
def numA (n k : Nat) : Nat := n / 2 ^ (24 - 8 * k) % 256
theorem numA_lt (n k : Nat) : numA n k < 256 := Nat.mod_lt _ (by decide)
theorem num_bits (n k : Nat) (hn : n ≤ 4294967295) : bits BinOp.and IntKind.i64 ((n : Int) / 2 ^ (24 - 8 * k)) 255 = ((numA n k : Nat) : Int) := by
  have h1 : ((n : Int) / 2 ^ (24 - 8 * k)) = ((n / 2 ^ (24 - 8 * k) : Nat) : Int) := by simp
  have h2 : n / 2 ^ (24 - 8 * k) ≤ n := Nat.div_le_self _ _
  have h3 : (255 : Int) = ((255 : Nat) : Int) := rfl
  rw [h1, h3, i64_and_nat _ _ (by omega) (by decide)]
  congr 1
  exact Nat.and_two_pow_sub_one_eq_mod _ 8
theorem strs_at (n k : Nat) (hk : k < 4) : (strsA n)[k]? = some ⟨(dd (numA n k)).toArray⟩ := by
  match k, hk with
  | 0, _ => rfl
  | 1, _ => rfl
  | 2, _ => rfl
  | 3, _ => simp [strsA, numsA, numA]
theorem itoa_num (n k : Nat) : Lib.itoa ((numA n k : Nat) : Int) = dd (numA n k) := by
  unfold Lib.itoa
  rw [if_neg (by omega), Int.toNat_natCast, decDigits_dd (numA_lt n k)]
theorem format_any (n k : Nat) (w : World) (hc : Consts w) : Calls Tryz.prog 81 #[.int .i64 (numA n k : Nat), .int .i64 10] w fun e w' => e = .returned (.string ⟨(dd (numA n k)).toArray⟩) ∧ Below w.heap.size w w' := by
  have := numA_lt n k
  refine (Tryz.strconv_FormatInt_10 (numA n k : Nat) (by omega) (by omega) w hc.pow).mono ?_
  rintro e w' ⟨rfl, j, os, rfl⟩
  exact ⟨by rw [itoa_num], Lib.below_grow _ _ (Nat.le_refl _) _ _⟩
set_option maxRecDepth 1000000 in
set_option maxHeartbeats 1600000 in
theorem text_any (a : Int) (w : World) (hc : Consts w) : Calls Tryz.prog 54 #[.int .i64 a] w fun e w' => e = .returned (.tuple #[.string (textR a), .int .i64 (textE a)]) ∧ Below w.heap.size w w' := by
  by_cases h0 : a < 0
  · have hr : textR a = ⟨#[]⟩ ∧ textE a = 150 := by unfold textR textE; rw [if_pos (.inl h0), if_pos (.inl h0)]; exact ⟨rfl, rfl⟩
    go_enter Tryz.func54, Tryz.ntmps54
    go_wp2
    go_ret2
    exact ⟨by simp [hr.1, hr.2], Below.refl _ _⟩
  by_cases h1 : 4294967295 < a
  · have hr : textR a = ⟨#[]⟩ ∧ textE a = 150 := by unfold textR textE; rw [if_pos (.inr h1), if_pos (.inr h1)]; exact ⟨rfl, rfl⟩
    go_enter Tryz.func54, Tryz.ntmps54
    go_wp2
    go_ret2
    exact ⟨by simp, Below.refl _ _⟩
  obtain ⟨n, rfl⟩ : ∃ n : Nat, a = n := ⟨a.toNat, by omega⟩
  obtain ⟨i0, hi, hz0, hz1, hz2⟩ := info_parts info9
  have HC := Lib.hid hc
  clear hc
  go_enter Tryz.func54, Tryz.ntmps54
  go_wp2
  go_loopg [4, 5] 4 (fun g s4 s5 wx => ∃ k : Nat, k + g = 4 ∧ s5 = .int .i64 (24 - 8 * (k : Int)) ∧ Hid (wx.ownsRow w.heap.size 9 1 s4 k (((strsA n).take k).map Value.string) ∧ Below w.heap.size w wx))
  case atStart => exact ⟨0, by omega, by simp, World.ownsRow_nil _ _ _ _, Below.refl _ _⟩
  case round =>
    obtain ⟨k, hkg, rfl, HR⟩ := hrel
    cases gk with
    | zero =>
      obtain rfl : k = 4 := by omega
      have hk : ¬ (0 : Int) ≤ 24 - 8 * ((4 : Nat) : Int) := by omega
      have hr : textR n = ⟨(textA (n / 16777216 % 256) (n / 65536 % 256) (n / 256 % 256) (n % 256)).toArray⟩ ∧ textE n = 0 := by unfold textR textE; rw [if_neg (by omega), if_neg (by omega)]; exact ⟨rfl, rfl⟩
      obtain ⟨hown, hbw⟩ := HR.out
      obtain ⟨_, hv | ⟨gg, cap, cur, rfl, hgb, hgh, hcap, _, _, hcur⟩⟩ := hown
      · exact absurd hv.2 (by decide)
      have hcells : ∀ (j : Nat) x, (strsA n)[j]? = some x → wr.cell? ⟨gg, 0 + j, none⟩ = some (.string x) := fun j x hx => by
        have hj : j < 4 := by have := (List.getElem?_eq_some_iff.1 hx).1; simpa [strsA, numsA] using this
        have h2 : cur.toList[j]? = some (.string x) := by
          have : (cur.toList.take (4 * 1))[j]? = cur.toList[j]? := List.getElem?_take_of_lt (by omega)
          rw [← this, hcur, List.getElem?_map, List.getElem?_take_of_lt hj, hx]; rfl
        simp only [World.cell?, hgh, Nat.zero_add]
        rw [← Array.getElem?_toList]; exact h2
      have hjoin : Lib.join ((strsA n).map (·.data.toList)) (⟨#[46]⟩ : ByteArray).data.toList = textA (n / 16777216 % 256) (n / 65536 % 256) (n / 256 % 256) (n % 256) := by
        simp [Lib.join, strsA, numsA, textA, List.intercalate]
      have hlen : (textA (n / 16777216 % 256) (n / 65536 % 256) (n / 256 % 256) (n % 256)).length ≤ 140737488355328 := by
        have hd : ∀ k, (dd k).length ≤ 3 := fun k => by unfold dd; split <;> (try split) <;> simp
        have a1 := hd (n / 16777216 % 256); have a2 := hd (n / 65536 % 256); have a3 := hd (n / 256 % 256); have a4 := hd (n % 256)
        simp [textA]; omega
      have cJ := Tryz.strings_Join gg 0 cap (strsA n) ⟨#[46]⟩ wr hcells (Array.getElem?_eq_some_iff.1 hgh).1 (by simp [strsA, numsA]) hcap (by rw [hjoin]; exact hlen)
      rw [hjoin] at cJ
      have HJ := Lib.hid cJ
      have HBW := Lib.hid hbw
      clear cJ hlen hjoin hcells hcur hgh hgb hbw HR
      go_wp2_with (go_at_call 56; refine HJ.out.mono ?_; rintro e w2 ⟨rfl, hb2⟩)
      go_ret2
      exact ⟨by simp [hr.1, hr.2], below_step HBW.out hb2⟩
    | succ g =>
      have hk : (0 : Int) ≤ 24 - 8 * (k : Int) := by omega
      have hb := num_bits n k (by omega)
      have HW := Lib.hid HR.out.2
      have HF := Lib.hid (format_any n k wr (HC.out.kept HR.out.2))
      have HO := Lib.hid HR.out.1
      have HT : Aside ((strsA n).take (k + 1) = (strsA n).take k ++ [⟨(dd (numA n k)).toArray⟩]) := by
        show (strsA n).take (k + 1) = _
        rw [List.take_add_one, strs_at n k (by omega)]; rfl
      clear HR
      go_wp2_with (first
        | (go_at_call 81; refine HF.out.mono ?_; rintro e w2 ⟨rfl, hb2⟩; have HB2 := Lib.hid hb2; clear hb2)
        | (at_builtin; refine wpList_append_own _ rfl _ _ 106 rfl w.heap.size 9 i0 (.string ⟨#[]⟩) 1 16 Tryz.underlying106 hi hz0 hz1 hz2 rfl (by decide) _ _ _ rfl ((own_below HO.out HB2.out).alloc _) ⟨w2.heap.size, 0, none⟩ 1 1 [.string ⟨(dd (numA n k)).toArray⟩] rfl rfl (cell_one_new _ _ _) (fun u hu => by simp at hu; subst hu; rfl) (by unfold maxLen; omega) (by omega) (by have := HW.out.size; have := HB2.out.size; simp; omega) ?_; intro v' w3 hown' hgrow' hnil'))
      have hB := below_step HW.out HB2.out
      have hA := hB.alloc hB.size (.cells #[.string ⟨(dd (numA n k)).toArray⟩] 9)
      have hG := hA.grown hgrow' (by simpa using Nat.le_succ_of_le hB.size) (fun j hj => (HO.out.lt j hj).1)
      go_roundg g
      case measure => omega
      case rel => exact ⟨k + 1, by omega, by congr 1; omega, by rw [HT.out, List.map_append]; exact hown', hG⟩
end Go.Proofs.Sa
