/- secrets: the document's Parse. -/
import Derived.Test.YtnadimjglkodkaaGreatDoorPrTwF
import Derived.Test.YtnadimjglkodkaaGreatDoorPrTwH
import Derived.Test.YtnadimjglkodkaaGreatDoorPrPtP
namespace Go.Proofs.Sr
open Go Go.RowKit Go.Pl Go.Proofs.Sa Go.Maps Go.Proofs.Pt
theorem extract_mid (s : ByteArray) (a e : Nat) : (s.extract a e).data.toList = (s.data.toList.drop a).take (e - a) := by
  rw [ByteArray.data_extract, Array.toList_extract]
theorem cut_piece (s : ByteArray) (a e : Nat) (hae : a ≤ e) (hes : e ≤ s.size) (hno : ∀ q, a ≤ q → (hq : q < e) → s.data.toList[q]? ≠ some 10) (hend : e = s.size ∨ s.data.toList[e]? = some 10) :
    cutAt 10 (s.data.toList.drop a) = (s.extract a e).data.toList :: (if e < s.size then cutAt 10 (s.data.toList.drop (e + 1)) else []) := by
  rw [extract_mid]
  have hall : ∀ x ∈ (s.data.toList.drop a).take (e - a), x ≠ 10 := fun x hx h10 => by
    subst h10
    obtain ⟨q, hq⟩ := List.getElem?_of_mem hx
    have hql : q < e - a := by
      have := (List.getElem?_eq_some_iff.1 hq).1
      rw [List.length_take] at this; omega
    rw [List.getElem?_take_of_lt hql, List.getElem?_drop] at hq
    exact hno (a + q) (by omega) (by omega) hq
  by_cases he : e < s.size
  · rw [if_pos he]
    rcases hend with h | h
    · omega
    have hd : s.data.toList.drop a = (s.data.toList.drop a).take (e - a) ++ 10 :: s.data.toList.drop (e + 1) := by
      conv => lhs; rw [← List.take_append_drop (e - a) (s.data.toList.drop a)]
      rw [List.drop_drop, show a + (e - a) = e by omega]
      congr 1
      obtain ⟨h1, h2⟩ := List.getElem?_eq_some_iff.1 h
      rw [List.drop_eq_getElem_cons h1, h2]
    conv => lhs; rw [hd]
    rw [cutAt_app 10 _ _ hall]
  · rw [if_neg he]
    have hd : (s.data.toList.drop a).take (e - a) = s.data.toList.drop a := List.take_of_length_le (by rw [List.length_drop, ← Lib.size_eq]; omega)
    rw [hd] at hall ⊢
    rw [cutAt_all 10 _ hall]
theorem lineS_err_ne {s : List UInt8} {k : Int} (h : lineS s = .error k) : k ≠ 0 := by
  unfold lineS at h
  split at h
  · cases h; decide
  · split at h
    · cases h; decide
    · cases h
    · cases h; decide
    · cases h; decide
    · split at h
      · rename_i hy
        cases h; exact hy
      · cases h
set_option maxRecDepth 1000000 in
set_option maxHeartbeats 3200000 in
theorem rparse_any (s : ByteArray) (w : World) (hC : Consts w) : Calls Tryz.prog 23 #[.string s] w (PaRet s.data.toList w) := by
  have HSZ := Lib.hid (Lib.size_eq s)
  by_cases hL : 65536 < s.size
  · have c0 : (65536 : Int) < (s.size : Int) := by omega
    have HF := Lib.hid (parseT_long (l := s.data.toList) (by rw [← HSZ.out]; exact hL))
    go_enter Tryz.func23, Tryz.ntmps23
    go_wp2
    go_ret3
    exact PaRet.bad (i := 0) HF.out (Below.refl _ _)
  have c0 : ¬ (65536 : Int) < (s.size : Int) := by omega
  have HL := Lib.hid (show ¬ 65536 < s.data.toList.length by rw [← HSZ.out]; exact hL)
  have HCo := Lib.hid hC
  clear hC
  obtain ⟨T, hT⟩ : ∃ T, parseS 0 (cutAt 10 s.data.toList) [] = T := ⟨_, rfl⟩
  have HT := Lib.hid hT
  have HRs : Hid (Rs w w.heap.size T 0 (cutAt 10 s.data.toList) (.slice none 0 0) [] w) := Lib.hid ⟨Frs.nil _ _, Nat.le_refl _, Below.refl _ _, hT, Nat.le_refl _⟩
  clear hT
  obtain ⟨j0, hj0, hy0, hy1, hy2⟩ := info_parts info93
  go_enter Tryz.func23, Tryz.ntmps23
  go_wp2
  go_loopg [5, 6, 7] (s.size + 1) (fun g s5 s6 s7 wx => ∃ (fr n : Nat) (rest : List (List UInt8)) (l' : List Sec), fr + g = s.size + 1 ∧ n ≤ fr ∧ s6 = .int .i64 n ∧ s7 = .int .i64 fr ∧ Hid (Rs w w.heap.size T n rest s5 l' wx) ∧ Hid ((fr < s.size → rest = cutAt 10 (s.data.toList.drop fr)) ∧ (s.size ≤ fr → rest = [] ∨ rest = [[]])))
  case atStart => exact ⟨0, 0, cutAt 10 s.data.toList, [], by omega, Nat.le_refl _, rfl, rfl, HRs, Lib.hid ⟨fun _ => rfl, fun h => .inr (by
    have : s.data.toList = [] := List.length_eq_zero_iff.1 (by rw [← HSZ.out]; omega)
    rw [this]; rfl)⟩⟩
  case round =>
    obtain ⟨fr, n, rest, l', hfg, hnf, rfl, rfl, HR, HX⟩ := hrel
    by_cases hfr : fr < s.size
    case neg =>
      have d0 : ¬ (fr : Int) < (s.size : Int) := by omega
      have HF := Lib.hid (show parseS 0 (cutAt 10 s.data.toList) [] = .ok (l'.map said) by
        rw [HT.out, ← HR.out.eq]
        rcases HX.out.2 (by omega) with h | h
        · rw [h]; rfl
        · rw [h]; simp [parseS, lineS_nil])
      obtain ⟨ao, cap, rfl⟩ := own_slice HR.out.frs.own
      by_cases hn : 64 < l'.length
      · have d5 : (64 : Int) < (l'.length : Int) := by omega
        have HE := Lib.hid (parseT_full HL.out HF.out (by rw [List.length_map]; exact hn))
        go_wp2
        go_ret3
        exact PaRet.bad HE.out HR.out.below
      · have d5 : ¬ (64 : Int) < (l'.length : Int) := by omega
        have HE := Lib.hid (parseT_good HL.out HF.out (by rw [List.length_map]; exact hn))
        go_wp2
        go_ret3
        exact PaRet.good HE.out HR.out.frs HR.out.below
    case pos =>
    have d1 : (fr : Int) < (s.size : Int) := by omega
    have d8 : (0 : Int) ≤ (fr : Int) := by omega
    cases gk with
    | zero => omega
    | succ g =>
    go_upto_block 2 with fail
    go_cut [8] (fun s8 wx => wx = wr ∧ ∃ (en : Nat), s8 = .int .i64 en ∧ fr ≤ en ∧ en ≤ s.size ∧ Hid ((∀ q, fr ≤ q → (hq : q < en) → s.data.toList[q]? ≠ some 10) ∧ (en = s.size ∨ s.data.toList[en]? = some 10)))
    case first =>
      go_wp2
      go_loopg [8] (s.size - fr) (fun g2 s8 wx => ∃ (en : Nat), en + g2 = s.size ∧ fr ≤ en ∧ s8 = .int .i64 en ∧ wx = wr ∧ Hid (∀ q, fr ≤ q → (hq : q < en) → s.data.toList[q]? ≠ some 10))
      case atStart => exact ⟨fr, by omega, Nat.le_refl _, rfl, rfl, Lib.hid fun q h1 h2 => by omega⟩
      case round =>
        obtain ⟨en, heg, hfe, rfl, hwx, HN⟩ := hrel
        subst hwx
        by_cases he : en < s.size
        case neg =>
          have e0 : ¬ (en : Int) < (s.size : Int) := by omega
          go_wp2
          go_meet
          exact ⟨rfl, en, rfl, hfe, by omega, Lib.hid ⟨HN.out, .inl (by omega)⟩⟩
        case pos =>
        have e0 : (en : Int) < (s.size : Int) := by omega
        have e8 : (0 : Int) ≤ (en : Int) := by omega
        have HDe := Lib.hid (Lib.data_getElem? s en he)
        by_cases h10 : (s[en]).toNat = 10
        · have e1 : (((s[en]).toNat : Int) != 10) = false := by simp; omega
          have HE := Lib.hid (show s.data.toList[en]? = some 10 by rw [HDe.out]; exact congrArg some (UInt8.toNat_inj.1 h10))
          go_wp2
          go_meet
          exact ⟨rfl, en, rfl, hfe, by omega, Lib.hid ⟨HN.out, .inr HE.out⟩⟩
        · have e1 : (((s[en]).toNat : Int) != 10) = true := by simp; omega
          have HN2 : Hid (∀ q, fr ≤ q → (hq : q < en + 1) → s.data.toList[q]? ≠ some 10) := Lib.hid fun q h1 h2 h3 => by
            rcases Nat.lt_or_ge q en with h4 | h4
            · exact HN.out q h1 h4 h3
            · obtain rfl : en = q := by omega
              rw [HDe.out] at h3
              exact h10 (by rw [Option.some.inj h3]; rfl)
          cases gk with
          | zero => omega
          | succ g2 =>
          go_wp2
          go_roundg g2
          case measure => omega
          case rel => exact ⟨en + 1, by omega, by omega, by simp, rfl, HN2⟩
    case rest =>
    obtain ⟨hwx, en, rfl, hfe, hes, HN⟩ := hcut
    have hwx := hwx.symm
    subst hwx
    have e8 : (0 : Int) ≤ (en : Int) := by omega
    have e7 : (fr : Int) ≤ (en : Int) := by omega
    have e6 : (en : Int) ≤ (s.size : Int) := by omega
    have hps : (s.extract fr en).size = en - fr := by rw [Lib.size_eq, extract_mid, List.length_take, List.length_drop, ← HSZ.out]; omega
    have HLn := Lib.hid (rline_any (s.extract fr en) (by rw [hps]; omega) wr (HCo.out.kept HR.out.below))
    obtain ⟨rest', hrest'⟩ : ∃ r, (if en < s.size then cutAt 10 (s.data.toList.drop (en + 1)) else []) = r := ⟨_, rfl⟩
    have hX2 : ((en + 1 < s.size → rest' = cutAt 10 (s.data.toList.drop (en + 1))) ∧ (s.size ≤ en + 1 → rest' = [] ∨ rest' = [[]])) := by
      refine ⟨fun h => ?_, fun h => ?_⟩
      · rw [← hrest', if_pos (by omega)]
      · by_cases he : en < s.size
        · right
          rw [← hrest', if_pos he, drop_end s (en + 1) h]; rfl
        · left
          rw [← hrest', if_neg he]
    have HX2 := Lib.hid hX2
    have hRR : Rs w w.heap.size T n ((s.extract fr en).data.toList :: rest') u5 l' wr := by
      have h := HR.out
      rw [HX.out.1 hfr, cut_piece s fr en hfe hes HN.out.1 HN.out.2, hrest'] at h
      exact h
    have HR1 := Lib.hid hRR
    have hwn : wrap64 ((n : Int) + 1) = (n : Int) + 1 := by unfold wrap64; omega
    have hwe : wrap64 ((en : Int) + 1) = (en : Int) + 1 := by unfold wrap64; omega
    clear hrest' hX2 hRR hps HR
    cases hl : lineS (s.extract fr en).data.toList with
    | error k =>
      have hk0 : (k != 0) = true := by simpa using lineS_err_ne hl
      have HF := Lib.hid (HR1.out.fault hl)
      have HL2 := Lib.hid hl
      clear hl
      go_wp2_with (go_at_call 49; go_loud (refine HLn.out.mono ?_; rintro e w2 ⟨hg1, _, _, hb2⟩; obtain rfl := hg1 _ HL2.out; have HB3 := Lib.hid (below_step (HR1.out.kept hb2).below ((Below.refl _ _).alloc (Nat.le_refl _) (.cells #[.string ⟨#[]⟩, .string ⟨#[]⟩, .string ⟨#[]⟩, .slice none 0 0] 93))); clear hg1 hb2))
      go_ret3
      exact PaRet.bad (parseT_bad HL.out (HT.out.trans HF.out)) HB3.out
    | ok o =>
      cases o with
      | none =>
        have HR3 := Lib.hid (HR1.out.skip hl)
        have HL2 := Lib.hid hl
        clear hl
        go_wp2_with (go_at_call 49; go_loud (refine HLn.out.mono ?_; rintro e w2 ⟨_, hg1, _, hb2⟩; obtain rfl := hg1 HL2.out; have HB3 := Lib.hid (below_step hb2 ((Below.refl _ _).alloc (Nat.le_refl _) (.cells #[.string ⟨#[]⟩, .string ⟨#[]⟩, .string ⟨#[]⟩, .slice none 0 0] 93))); clear hg1 hb2))
        go_roundg (s.size - en)
        case measure => omega
        case rel => exact ⟨en + 1, n + 1, rest', l', by omega, by omega, by simp, by simp, Lib.hid (HR3.out.kept HB3.out), HX2⟩
      | some x =>
        have HL2 := Lib.hid hl
        have HNew : Hid (∀ (w2 : World) (ao : Option Addr) (cap : Nat), ∀ j u, [Value.string ⟨x.1.toArray⟩, .string ⟨x.2.1.toArray⟩, .string ⟨x.2.2.1.toArray⟩, .slice ao x.2.2.2.length cap][j]? = some u → ((w2.alloc (.cells #[.string ⟨x.1.toArray⟩, .string ⟨x.2.1.toArray⟩, .string ⟨x.2.2.1.toArray⟩, .slice ao x.2.2.2.length cap] 93)).alloc (.cells #[.string ⟨x.1.toArray⟩, .string ⟨x.2.1.toArray⟩, .string ⟨x.2.2.1.toArray⟩, .slice ao x.2.2.2.length cap] 93)).cell? ((⟨w2.heap.size + 1, 0, none⟩ : Addr).add j) = some u) := Lib.hid fun w2 ao cap j u hu => by
          have := cell_four_new (w2.alloc (.cells #[.string ⟨x.1.toArray⟩, .string ⟨x.2.1.toArray⟩, .string ⟨x.2.2.1.toArray⟩, .slice ao x.2.2.2.length cap] 93)) (.string ⟨x.1.toArray⟩) (.string ⟨x.2.1.toArray⟩) (.string ⟨x.2.2.1.toArray⟩) (.slice ao x.2.2.2.length cap) 93 j u hu
          have hsz : (w2.alloc (.cells #[.string ⟨x.1.toArray⟩, .string ⟨x.2.1.toArray⟩, .string ⟨x.2.2.1.toArray⟩, .slice ao x.2.2.2.length cap] 93)).heap.size = w2.heap.size + 1 := by simp
          rwa [hsz] at this
        have hll : l'.length ≤ 4294967281 := by have := HR1.out.cnt; omega
        clear hl
        go_wp2_with (first
          | (go_at_call 49; go_loud (refine HLn.out.mono ?_; rintro e w2 ⟨_, _, hg1, hb2⟩; obtain ⟨ao, cap, rfl, hi2, ho2, hc2⟩ := hg1 _ HL2.out; have HR2 := Lib.hid (HR1.out.kept hb2); have HI2 := Lib.hid hi2; have HO2 := Lib.hid (ho2.mono HR1.out.below.size); have HC2 := Lib.hid hc2; clear hg1 hi2 ho2 hc2 hb2; simp only [strV]))
          | (at_builtin; go_loud (refine wpList_append_own _ rfl _ _ 48 rfl w.heap.size 93 j0 (.agg #[.string ⟨#[]⟩, .string ⟨#[]⟩, .string ⟨#[]⟩, .slice none 0 0]) 4 72 Tryz.underlying48 hj0 hy0 hy1 hy2 rfl (by decide) _ l'.length _ rfl ((HR2.out.frs.own.alloc _).alloc _) ⟨w2.heap.size + 1, 0, none⟩ 1 1 [.string ⟨x.1.toArray⟩, .string ⟨x.2.1.toArray⟩, .string ⟨x.2.2.1.toArray⟩, .slice ao x.2.2.2.length cap] rfl rfl (HNew.out w2 ao cap) (fun u hu => by simp at hu; rcases hu with rfl | rfl | rfl | rfl <;> rfl) (by unfold maxLen; omega) (by omega) (by have := HR2.out.below.size; simp; omega) ?_; intro v5 w5 hown5 hgrow5 hnil5; have HO5 := Lib.hid hown5; have HG5 := Lib.hid hgrow5; clear hown5 hgrow5 hnil5)))
        have hal : Below w2.heap.size w2 (w2.alloc (.cells #[.string ⟨x.1.toArray⟩, .string ⟨x.2.1.toArray⟩, .string ⟨x.2.2.1.toArray⟩, .slice ao x.2.2.2.length cap] 93)) := (Below.refl _ _).alloc (Nat.le_refl _) _
        have HR4 := Lib.hid ((HR2.out.kept hal).next HL2.out (HI2.out.kept hal) (HO2.out.kept hal) HC2.out HO5.out HG5.out)
        clear hal
        go_roundg (s.size - en)
        case measure => omega
        case rel => exact ⟨en + 1, n + 1, rest', _, by omega, by omega, by simp, by simp, HR4, HX2⟩
end Go.Proofs.Sr
