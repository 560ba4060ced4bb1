/- options: Addr, either side. -/
import Derived.Maps.AppendAt
import Derived.OwnWalk
import Derived.Lib.AppendIntMem
import Derived.WalkKit
import Derived.Deep.LoopGhost
import Derived.Test.YtbegpgheikibjaaGreatDoorPrShelfN
import Derived.Test.YtbegpgheikibjaaGreatDoorPrCnP
namespace Go.Proofs.Cn
open Go Go.RowKit Go.Pl Go.Maps Go.Proofs.Sa
theorem info9 : (Tryz.prog.info? 9).map (fun i => (i.zero, i.size, i.bytes)) = some (some (.string ⟨#[]⟩), 1, 16) := by kernel_rfl
theorem var_below {P : Program} {n : String} {w w' : World} {cs : Array Value} (h : w.var? P n = some cs) (hb : Below w.heap.size w w') : w'.var? P n = some cs := by
  unfold World.var? at h ⊢
  cases hg : P.globalNamed n with
  | none => simp [hg] at h
  | some g =>
    simp only [hg, Option.bind_some] at h ⊢
    have hlt : g < w.heap.size := by
      rcases Nat.lt_or_ge g w.heap.size with h' | h'
      · exact h'
      · simp [Array.getElem?_eq_none h'] at h
    rw [hb.block g hlt]
    exact h
structure Consts (w : World) : Prop where
  pow : Lib.TabIs Tryz.prog w "internal/strconv.uint64pow10" .u64 Lib.pow10Tab
  most : ∃ m, w.cell? ⟨2, 0, none⟩ = some (.int .i64 m)
theorem Consts.kept {w w' : World} (h : Consts w) (hb : Below w.heap.size w w') : Consts w' := by
  obtain ⟨h1, m, h2⟩ := h
  exact ⟨var_below h1 hb, m, (hb.cell (World.block_lt_of_cell? _ _ h2)).trans h2⟩
set_option maxRecDepth 1000000 in
theorem in_any (a lo hi : Int) (w : World) : Calls Tryz.prog 47 #[.int .i64 a, .int .i64 lo, .int .i64 hi] w fun e w' => e = .returned (.bool (decide (lo ≤ a) && decide (a ≤ hi))) ∧ w' = w := by
  by_cases h1 : lo ≤ a
  · by_cases h2 : a ≤ hi
    · go_enter Tryz.func47, Tryz.ntmps47
      go_wp2
      go_ret
      exact ⟨by simp [show decide (lo ≤ a) = true by simpa using h1, show decide (a ≤ hi) = true by simpa using h2], rfl⟩
    · go_enter Tryz.func47, Tryz.ntmps47
      go_wp2
      go_ret
      exact ⟨by rw [show decide (a ≤ hi) = false by simpa using h2]; simp, rfl⟩
  · go_enter Tryz.func47, Tryz.ntmps47
    go_wp2
    go_ret
    exact ⟨by rw [show decide (lo ≤ a) = false by simpa using h1]; simp, rfl⟩
theorem format_any (n k : Nat) (w : World) (hc : Consts w) : Calls Tryz.prog 48 #[.int .i64 (numA n k : Nat), .int .i64 10] w fun e w' => e = .returned (.string ⟨(dd (numA n k)).toArray⟩) ∧ Below w.heap.size w w' := by
  have := numA_lt n k
  refine (Tryz.strconv_FormatInt_10 (numA n k : Nat) (by omega) (by omega) w hc.pow).mono ?_
  rintro e w' ⟨rfl, j, os, rfl⟩
  exact ⟨by rw [itoa_num], Lib.below_grow _ _ (Nat.le_refl _) _ _⟩
set_option maxRecDepth 1000000 in
set_option maxHeartbeats 1600000 in
theorem text_any (a : Int) (w : World) (hc : Consts w) : Calls Tryz.prog 21 #[.int .i64 a] w fun e w' => e = .returned (.tuple #[.string (textR a), .int .i64 (textE a)]) ∧ Below w.heap.size w w' := by
  by_cases h0 : a < 0 ∨ 4294967295 < a
  · have hr : textR a = ⟨#[]⟩ ∧ textE a = 150 := by unfold textR textE; rw [if_pos h0, if_pos h0]; exact ⟨rfl, rfl⟩
    have hi0 : (decide ((0 : Int) ≤ a) && decide (a ≤ 4294967295)) = false := by simp; omega
    have HI := Lib.hid (in_any a 0 4294967295 w)
    rw [hi0] at HI
    go_enter Tryz.func21, Tryz.ntmps21
    go_wp2_with (go_at_call 47; refine HI.out.mono ?_; rintro e w2 ⟨rfl, rfl⟩)
    go_ret2
    exact ⟨by simp [hr.1, hr.2], Below.refl _ _⟩
  obtain ⟨n, rfl⟩ : ∃ n : Nat, a = n := ⟨a.toNat, by omega⟩
  obtain ⟨i0, hi, hz0, hz1, hz2⟩ := info_parts info9
  have HC := Lib.hid hc
  clear hc
  have hi1 : (decide ((0 : Int) ≤ (n : Int)) && decide ((n : Int) ≤ 4294967295)) = true := by simp; omega
  have HI := Lib.hid (in_any n 0 4294967295 w)
  rw [hi1] at HI
  have hn0 : n ≤ 4294967295 := by omega
  have HN0 := Lib.hid hn0
  clear hi1
  go_enter Tryz.func21, Tryz.ntmps21
  go_wp2_with (go_at_call 47; refine HI.out.mono ?_; rintro e w2 ⟨rfl, hw2⟩; have hw2 := hw2.symm; subst hw2)
  go_loopg [4, 5] 4 (fun g s4 s5 wx => ∃ k : Nat, k + g = 4 ∧ s5 = .int .i64 (24 - 8 * (k : Int)) ∧ Hid (wx.ownsRow w.heap.size 9 1 s4 k (((strsA n).take k).map Value.string) ∧ Below w.heap.size w wx))
  case atStart => exact ⟨0, by omega, by simp, World.ownsRow_nil _ _ _ _, Below.refl _ _⟩
  case round =>
    obtain ⟨k, hkg, rfl, HR⟩ := hrel
    cases gk with
    | zero =>
      obtain rfl : k = 4 := by omega
      have hk : ¬ (0 : Int) ≤ 24 - 8 * ((4 : Nat) : Int) := by omega
      have hr : textR n = ⟨(textA (n / 16777216 % 256) (n / 65536 % 256) (n / 256 % 256) (n % 256)).toArray⟩ ∧ textE n = 0 := by unfold textR textE; rw [if_neg (by omega), if_neg (by omega)]; exact ⟨rfl, rfl⟩
      obtain ⟨hown, hbw⟩ := HR.out
      obtain ⟨_, hv | ⟨gg, cap, cur, rfl, hgb, hgh, hcap, _, _, hcur⟩⟩ := hown
      · exact absurd hv.2 (by decide)
      have hcells : ∀ (j : Nat) x, (strsA n)[j]? = some x → wr.cell? ⟨gg, 0 + j, none⟩ = some (.string x) := fun j x hx => by
        have hj : j < 4 := by have := (List.getElem?_eq_some_iff.1 hx).1; simpa [strsA, numsA] using this
        have h2 : cur.toList[j]? = some (.string x) := by
          have : (cur.toList.take (4 * 1))[j]? = cur.toList[j]? := List.getElem?_take_of_lt (by omega)
          rw [← this, hcur, List.getElem?_map, List.getElem?_take_of_lt hj, hx]; rfl
        simp only [World.cell?, hgh, Nat.zero_add]
        rw [← Array.getElem?_toList]; exact h2
      have hjoin : Lib.join ((strsA n).map (·.data.toList)) (⟨#[46]⟩ : ByteArray).data.toList = textA (n / 16777216 % 256) (n / 65536 % 256) (n / 256 % 256) (n % 256) := by
        simp [Lib.join, strsA, numsA, textA, List.intercalate]
      have hlen : (textA (n / 16777216 % 256) (n / 65536 % 256) (n / 256 % 256) (n % 256)).length ≤ 140737488355328 := by
        have hd : ∀ k, (dd k).length ≤ 3 := fun k => by unfold dd; split <;> (try split) <;> simp
        have a1 := hd (n / 16777216 % 256); have a2 := hd (n / 65536 % 256); have a3 := hd (n / 256 % 256); have a4 := hd (n % 256)
        simp [textA]; omega
      have cJ := Tryz.strings_Join gg 0 cap (strsA n) ⟨#[46]⟩ wr hcells (Array.getElem?_eq_some_iff.1 hgh).1 (by simp [strsA, numsA]) hcap (by rw [hjoin]; exact hlen)
      rw [hjoin] at cJ
      have HJ := Lib.hid cJ
      have HBW := Lib.hid hbw
      clear cJ hlen hjoin hcells hcur hgh hgb hbw HR
      go_wp2_with (go_at_call 49; refine HJ.out.mono ?_; rintro e w2 ⟨rfl, hb2⟩)
      go_ret2
      exact ⟨by simp [hr.1, hr.2], below_step HBW.out hb2⟩
    | succ g =>
      have hk : (0 : Int) ≤ 24 - 8 * (k : Int) := by omega
      have hb := num_bits n k (by omega)
      have HW := Lib.hid HR.out.2
      have HF := Lib.hid (format_any n k wr (HC.out.kept HR.out.2))
      have HO := Lib.hid HR.out.1
      have HT : Aside ((strsA n).take (k + 1) = (strsA n).take k ++ [⟨(dd (numA n k)).toArray⟩]) := by
        show (strsA n).take (k + 1) = _
        rw [List.take_add_one, strs_at n k (by omega)]; rfl
      clear HR
      go_wp2_with (first
        | (go_at_call 48; refine HF.out.mono ?_; rintro e w2 ⟨rfl, hb2⟩; have HB2 := Lib.hid hb2; clear hb2)
        | (at_builtin; refine wpList_append_own _ rfl _ _ 36 rfl w.heap.size 9 i0 (.string ⟨#[]⟩) 1 16 Tryz.underlying36 hi hz0 hz1 hz2 rfl (by decide) _ _ _ rfl ((own_below HO.out HB2.out).alloc _) ⟨w2.heap.size, 0, none⟩ 1 1 [.string ⟨(dd (numA n k)).toArray⟩] rfl rfl (cell_one_new _ _ _) (fun u hu => by simp at hu; subst hu; rfl) (by unfold maxLen; omega) (by omega) (by have := HW.out.size; have := HB2.out.size; simp; omega) ?_; intro v' w3 hown' hgrow' hnil'))
      have hB := below_step HW.out HB2.out
      have hA := hB.alloc hB.size (.cells #[.string ⟨(dd (numA n k)).toArray⟩] 9)
      have hG := hA.grown hgrow' (by simpa using Nat.le_succ_of_le hB.size) (fun j hj => (HO.out.lt j hj).1)
      go_roundg g
      case measure => omega
      case rel => exact ⟨k + 1, by omega, by congr 1; omega, by rw [HT.out, List.map_append]; exact hown', hG⟩
end Go.Proofs.Cn
