/- options: Id, either side. -/
import Derived.Test.YtbegpgheikibjaaGreatDoorPrCnG
import Derived.Test.YtbegpgheikibjaaGreatDoorPrCnJ
namespace Go.Proofs.Cn
open Go Go.RowKit Go.Pl Go.Maps Go.Proofs.Sa Go.Lib
def idF : Nat → List (List UInt8) → Option Nat
  | n, [] => some n
  | n, p :: ps => match hexL p with
    | some k => idF (n * 65536 + k) ps
    | none => none
def idO (l : List UInt8) : Option Nat := if (cutAt 58 l).length = 4 then idF 0 (cutAt 58 l) else none
def idR (l : List UInt8) : Int × Int := match idO l with
  | some k => (k, 0)
  | none => (0, 150)
theorem idR_none {l : List UInt8} (h : idO l = none) : idR l = (0, 150) := by unfold idR; rw [h]
theorem idR_some {l : List UInt8} {k : Nat} (h : idO l = some k) : idR l = ((k : Int), 0) := by unfold idR; rw [h]
theorem idF_bad {n : Nat} {p : List UInt8} {ps : List (List UInt8)} (h : hexL p = none) : idF n (p :: ps) = none := by unfold idF; rw [h]
theorem idF_step {n k : Nat} {p : List UInt8} {ps : List (List UInt8)} (h : hexL p = some k) : idF n (p :: ps) = idF (n * 65536 + k) ps := by
  conv => lhs; unfold idF
  rw [h]
theorem hexV_lt : ∀ (l : List UInt8) (n i k : Nat), n < 16 ^ i → hexV n l = some k → k < 16 ^ (i + l.length)
  | [], n, i, k, hn, h => by
    injection h with h
    subst h; simpa using hn
  | c :: l, n, i, k, hn, h => by
    obtain ⟨d, hd, h2⟩ := hexV_some h
    have := hexV_lt l _ (i + 1) k (pow_16n hn (hexD_lt hd)) h2
    rwa [List.length_cons, show i + (l.length + 1) = i + 1 + l.length by omega]
theorem hexL_lt {l : List UInt8} {k : Nat} (h : hexL l = some k) : k < 65536 := by
  unfold hexL at h
  split at h
  · cases h
  · rename_i hl
    have h2 := hexV_lt l 0 0 k (by decide) h
    exact Nat.lt_of_lt_of_le h2 (Nat.pow_le_pow_right (by decide) (by omega) : 16 ^ (0 + l.length) ≤ 16 ^ 4)
/-- What Id answers, either side. -/
def JRet (l : List UInt8) (w : World) (e : Ending) (w' : World) : Prop := e = .returned (.tuple #[.int .u64 (idR l).1, .int .i64 (idR l).2]) ∧ Below w.heap.size w w'
theorem JRet.bad {l : List UInt8} {w w' : World} (h : idO l = none) (hb : Below w.heap.size w w') : JRet l w (.returned (.tuple #[.int .u64 0, .int .i64 150])) w' := ⟨by rw [idR_none h], hb⟩
theorem JRet.good {l : List UInt8} {w w' : World} {k : Nat} (h : idO l = some k) (hb : Below w.heap.size w w') : JRet l w (.returned (.tuple #[.int .u64 k, .int .i64 0])) w' := ⟨by rw [idR_some h], hb⟩
/-- What holds ahead of a round. -/
structure Jst (w : World) (l : List UInt8) (ao : Option Addr) (i n : Nat) (wx : World) : Prop where
  below : Below w.heap.size w wx
  row : WRow wx ao 4 (cutAt 58 l)
  lt : n < 65536 ^ i
  eq : idF n ((cutAt 58 l).drop i) = idO l
theorem Jst.kept {w : World} {l : List UInt8} {ao : Option Addr} {i n : Nat} {wx w' : World} (h : Jst w l ao i n wx) (hb : Below wx.heap.size wx w') : Jst w l ao i n w' := ⟨below_step h.below hb, h.row.kept hb, h.lt, h.eq⟩
theorem pow_64 {n i : Nat} (h : n < 65536 ^ i) (hi : i < 4) : n < 65536 ^ 3 := Nat.lt_of_lt_of_le h (Nat.pow_le_pow_right (by decide) (by omega))
theorem pow_64n {n i k : Nat} (h : n < 65536 ^ i) (hk : k < 65536) : n * 65536 + k < 65536 ^ (i + 1) := by rw [Nat.pow_succ]; omega
theorem part_size {l p : List UInt8} {c : UInt8} {i N : Nat} (hl : l.length ≤ N) (hp : (cutAt c l)[i]? = some p) : (⟨p.toArray⟩ : ByteArray).size ≤ N := by
  have h1 := cutAt_len c l p (List.mem_of_getElem? hp)
  have h2 : (⟨p.toArray⟩ : ByteArray).size = p.length := Lib.size_eq _
  omega
set_option maxRecDepth 1000000 in
set_option maxHeartbeats 3200000 in
theorem id_any (s : ByteArray) (hs : s.size ≤ 1048576) (w : World) (hc : Consts w) : Calls Tryz.prog 25 #[.string s] w (JRet s.data.toList w) := by
  have HS := Lib.hid (split_any s 58 hs w hc)
  have HSZ := Lib.hid (show s.data.toList.length ≤ 1048576 by rw [← Lib.size_eq]; exact hs)
  clear hc
  by_cases h4 : (cutAt 58 s.data.toList).length = 4
  · rw [h4] at HS
    have H4 := Lib.hid h4
    have HO := Lib.hid (show idF 0 (cutAt 58 s.data.toList) = idO s.data.toList by unfold idO; rw [if_pos h4])
    clear h4
    go_enter Tryz.func25, Tryz.ntmps25
    go_wp2_with (go_at_call 35; refine HS.out.mono ?_; rintro e w1 ⟨ao, cap, rfl, hr1, hb1⟩; have HR1 : Hid (Jst w s.data.toList ao 0 0 w1) := Lib.hid ⟨hb1, hr1, by decide, HO.out⟩; clear hr1 hb1)
    go_loopg [5, 14] 4 (fun g s5 s14 wx => ∃ i n : Nat, i + g = 4 ∧ s5 = .int .u64 n ∧ s14 = .int .i64 i ∧ Hid (Jst w s.data.toList ao i n wx))
    case atStart => exact ⟨0, 0, by omega, rfl, rfl, HR1⟩
    case round =>
      obtain ⟨i, n, hig, rfl, rfl, HR⟩ := hrel
      cases gk with
      | zero =>
        obtain rfl : i = 4 := by omega
        have HF := Lib.hid (show idO s.data.toList = some n by rw [← HR.out.eq, List.drop_of_length_le (by rw [H4.out]; exact Nat.le_refl _)]; rfl)
        go_wp2
        go_ret2
        exact JRet.good HF.out HR.out.below
      | succ g =>
        have c0 : (i : Int) < 4 := by omega
        obtain ⟨p, hp, hd⟩ := parts_at H4.out (show i < 4 by omega)
        obtain ⟨b, rfl, hb, hcb⟩ := HR.out.row.row (by decide)
        have d0 : wr.cell? ⟨b, i, none⟩ = some (.string ⟨p.toArray⟩) := hcb i p hp
        have HD := Lib.hid hd
        have HDg := Lib.hid (hex_any ⟨p.toArray⟩ (part_size HSZ.out hp) wr)
        clear hcb hb hp hd
        cases hk : hexL p with
        | none =>
          have HF := Lib.hid (show idO s.data.toList = none by rw [← HR.out.eq, HD.out, idF_bad hk])
          have HK := Lib.hid hk
          clear hk
          go_wp2_with (go_at_call 53; refine HDg.out.mono ?_; rintro e w2 ⟨m, ok, rfl, hg1, hg2, hb2⟩; have HB2 := Lib.hid hb2; obtain rfl := hg2 HK.out; clear hg1 hg2 hb2)
          go_ret2
          exact JRet.bad HF.out (below_step HR.out.below HB2.out)
        | some k =>
          have HK := Lib.hid hk
          have hk16 := hexL_lt hk
          have ho := or_quad n k (k : Int) rfl (by have := pow_64 HR.out.lt (show i < 4 by omega); omega) hk16
          have HN : Hid (Jst w s.data.toList (some ⟨b, 0, none⟩) (i + 1) (n * 65536 + k) wr) := Lib.hid ⟨HR.out.below, HR.out.row, pow_64n HR.out.lt hk16, by rw [← HR.out.eq, HD.out, idF_step hk]⟩
          clear hk hk16
          go_wp2_with (go_at_call 53; refine HDg.out.mono ?_; rintro e w2 ⟨m, ok, rfl, hg1, hg2, hb2⟩; have HB2 := Lib.hid hb2; obtain ⟨rfl, rfl⟩ := hg1 k HK.out; clear hg1 hg2 hb2)
          go_roundg g
          case measure => omega
          case rel => exact ⟨i + 1, _, by omega, by first | rfl | (rw [ho]; done), by first | (simp; done) | (simp; omega), Lib.hid (HN.out.kept HB2.out)⟩
  · have HF := Lib.hid (show idO s.data.toList = none by unfold idO; rw [if_neg h4])
    have hne := cutAt_ne 58 s.data.toList
    obtain ⟨p, hp⟩ : ∃ p, (cutAt 58 s.data.toList)[0]? = some p := ⟨_, List.getElem?_eq_getElem (List.length_pos_iff.2 hne)⟩
    have hpos : 0 < (cutAt 58 s.data.toList).length := List.length_pos_iff.2 hne
    have HP := Lib.hid hp
    have HPS := Lib.hid (part_size HSZ.out hp)
    clear hne hp
    generalize hN : (cutAt 58 s.data.toList).length = N at *
    have HNN := Lib.hid hN
    clear hN
    have c0 : (0 : Int) < (N : Int) := by omega
    have c1 : ((N : Int) != 4) = true := by simp; omega
    go_enter Tryz.func25, Tryz.ntmps25
    go_wp2_with (go_at_call 35; refine HS.out.mono ?_; rintro e w1 ⟨ao, cap, rfl, hr1, hb1⟩; have HR1 := Lib.hid hr1; have HB1 := Lib.hid hb1; clear hr1 hb1)
    go_loopg [5, 14] 1 (fun g s5 s14 wx => g = 1 ∧ s5 = .int .u64 0 ∧ s14 = .int .i64 0 ∧ wx = w1)
    case atStart => exact ⟨rfl, rfl, rfl, rfl⟩
    case round =>
      obtain ⟨hg, rfl, rfl, hwx⟩ := hrel
      have hwx := hwx.symm
      subst hwx
      obtain ⟨b, rfl, hb, hcb⟩ := HR1.out.row hpos
      have d0 : w1.cell? ⟨b, 0, none⟩ = some (.string ⟨p.toArray⟩) := hcb 0 p HP.out
      have HDg := Lib.hid (hex_any ⟨p.toArray⟩ HPS.out w1)
      clear hcb hb
      cases hk : hexL p with
      | none =>
        have HK := Lib.hid hk
        clear hk
        go_wp2_with (go_at_call 53; refine HDg.out.mono ?_; rintro e w2 ⟨m, ok, rfl, hg1, hg2, hb2⟩; have HB2 := Lib.hid hb2; obtain rfl := hg2 HK.out; clear hg1 hg2 hb2)
        go_ret2
        exact JRet.bad HF.out (below_step HB1.out HB2.out)
      | some k =>
        have HK := Lib.hid hk
        clear hk
        go_wp2_with (go_at_call 53; refine HDg.out.mono ?_; rintro e w2 ⟨m, ok, rfl, hg1, hg2, hb2⟩; have HB2 := Lib.hid hb2; obtain ⟨rfl, rfl⟩ := hg1 k HK.out; clear hg1 hg2 hb2)
        go_ret2
        exact JRet.bad HF.out (below_step HB1.out HB2.out)
set_option maxRecDepth 1000000 in
set_option maxHeartbeats 3200000 in
theorem rid_any (s : ByteArray) (hs : s.size ≤ 1048576) (w : World) : Calls Tryz.prog 26 #[.string s] w (JRet s.data.toList w) := by
  have HS : Hid (Calls Tryz.prog 39 #[.string s, .int .u8 58] w fun e w' => ∃ ao cap, e = .returned (.slice ao (cutAt 58 s.data.toList).length cap) ∧ WRow w' ao (cutAt 58 s.data.toList).length (cutAt 58 s.data.toList) ∧ Below w.heap.size w w') := Lib.hid (rcut_any s 58 hs w)
  by_cases h4 : (cutAt 58 s.data.toList).length = 4
  · rw [h4] at HS
    have H4 := Lib.hid h4
    have HO := Lib.hid (show idF 0 (cutAt 58 s.data.toList) = idO s.data.toList by unfold idO; rw [if_pos h4])
    clear h4
    go_enter Tryz.func26, Tryz.ntmps26
    go_wp2_with (go_at_call 39; refine HS.out.mono ?_; rintro e w1 ⟨ao, cap, rfl, hr1, hb1⟩; have HR1 : Hid (Jst w s.data.toList ao 0 0 w1) := Lib.hid ⟨hb1, hr1, by decide, HO.out⟩; clear hr1 hb1)
    go_loopg [5, 6] 4 (fun g s5 s14 wx => ∃ i n : Nat, i + g = 4 ∧ s5 = .int .u64 n ∧ s14 = .int .i64 i ∧ Hid (Jst w s.data.toList ao i n wx))
    case atStart => exact ⟨0, 0, by omega, rfl, rfl, HR1⟩
    case round =>
      obtain ⟨i, n, hig, rfl, rfl, HR⟩ := hrel
      cases gk with
      | zero =>
        obtain rfl : i = 4 := by omega
        have HF := Lib.hid (show idO s.data.toList = some n by rw [← HR.out.eq, List.drop_of_length_le (by rw [H4.out]; exact Nat.le_refl _)]; rfl)
        go_wp2
        go_ret2
        exact JRet.good HF.out HR.out.below
      | succ g =>
        have c0 : (i : Int) < 4 := by omega
        obtain ⟨p, hp, hd⟩ := parts_at H4.out (show i < 4 by omega)
        obtain ⟨b, rfl, hb, hcb⟩ := HR.out.row.row (by decide)
        have d0 : wr.cell? ⟨b, i, none⟩ = some (.string ⟨p.toArray⟩) := hcb i p hp
        have HD := Lib.hid hd
        have HDg := Lib.hid (rhex_any ⟨p.toArray⟩ wr)
        clear hcb hb hp hd
        cases hk : hexL p with
        | none =>
          have HF := Lib.hid (show idO s.data.toList = none by rw [← HR.out.eq, HD.out, idF_bad hk])
          have HK := Lib.hid hk
          clear hk
          go_wp2_with (go_at_call 54; refine HDg.out.mono ?_; rintro e w2 ⟨m, ok, rfl, hg1, hg2, hb2⟩; have HB2 := Lib.hid hb2; obtain rfl := hg2 HK.out; clear hg1 hg2 hb2)
          go_ret2
          exact JRet.bad HF.out (below_step HR.out.below HB2.out)
        | some k =>
          have HK := Lib.hid hk
          have hk16 := hexL_lt hk
          have ho := or_quad n k (k : Int) rfl (by have := pow_64 HR.out.lt (show i < 4 by omega); omega) hk16
          have HN : Hid (Jst w s.data.toList (some ⟨b, 0, none⟩) (i + 1) (n * 65536 + k) wr) := Lib.hid ⟨HR.out.below, HR.out.row, pow_64n HR.out.lt hk16, by rw [← HR.out.eq, HD.out, idF_step hk]⟩
          clear hk hk16
          go_wp2_with (go_at_call 54; refine HDg.out.mono ?_; rintro e w2 ⟨m, ok, rfl, hg1, hg2, hb2⟩; have HB2 := Lib.hid hb2; obtain ⟨rfl, rfl⟩ := hg1 k HK.out; clear hg1 hg2 hb2)
          go_roundg g
          case measure => omega
          case rel => exact ⟨i + 1, _, by omega, by first | rfl | (rw [ho]; done), by first | (simp; done) | (simp; omega), Lib.hid (HN.out.kept HB2.out)⟩
  · have HF := Lib.hid (show idO s.data.toList = none by unfold idO; rw [if_neg h4])
    generalize hN : (cutAt 58 s.data.toList).length = N at *
    have c1 : ((N : Int) != 4) = true := by simp; omega
    clear hN
    go_enter Tryz.func26, Tryz.ntmps26
    go_wp2_with (go_at_call 39; refine HS.out.mono ?_; rintro e w1 ⟨ao, cap, rfl, hr1, hb1⟩; have HB1 := Lib.hid hb1; clear hr1 hb1)
    go_ret2
    exact JRet.bad HF.out HB1.out
end Go.Proofs.Cn
