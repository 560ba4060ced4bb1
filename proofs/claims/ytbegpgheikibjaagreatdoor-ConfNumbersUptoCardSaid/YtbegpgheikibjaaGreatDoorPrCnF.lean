/- options: Ip, either side. -/
import Derived.Test.YtbegpgheikibjaaGreatDoorPrCnD
import Derived.Test.YtbegpgheikibjaaGreatDoorPrPlCut
namespace Go.Proofs.Cn
open Go Go.RowKit Go.Pl Go.Maps Go.Proofs.Sa Go.Lib
/-- A text at a byte. -/
theorem split_any (s : ByteArray) (c : UInt8) (hs : s.size ≤ 1048576) (w : World) (hc : Consts w) : Calls Tryz.prog 35 #[.string s, .string ⟨#[c]⟩] w fun e w' => ∃ ao cap, e = .returned (.slice ao (cutAt c s.data.toList).length cap) ∧ WRow w' ao (cutAt c s.data.toList).length (cutAt c s.data.toList) ∧ Below w.heap.size w w' := by
  obtain ⟨m, hm⟩ := hc.most
  refine (Tryz.strings_Split s ⟨#[c]⟩ m w (by omega) hm (Nat.le_refl 1)).mono ?_
  rintro e w' ⟨rfl, rfl⟩
  have h1 := splitB_one s c ⟨#[c]⟩ rfl
  have h2 := splitB_count s c ⟨#[c]⟩ rfl
  generalize Lib.splitB ⟨#[c]⟩ 0 (Lib.countB s ⟨#[c]⟩) s = ps at *
  generalize Lib.countB s ⟨#[c]⟩ = N at *
  have h3 : (cutAt c s.data.toList).length = N + 1 := by rw [← h1, List.length_map, h2]
  have hct := count_cut c s.data.toList
  have hcl := Lib.count_le s.data.toList [c]
  have hsz := Lib.size_eq s
  refine ⟨_, _, by rw [h3], ⟨rfl, by omega, fun _ => ⟨w.heap.size, rfl, by simp, fun j x hx => ?_⟩⟩, (Below.refl _ _).alloc (Nat.le_refl _) _⟩
  rw [← h1, List.getElem?_map] at hx
  cases hp : ps[j]? with
  | none => rw [hp] at hx; cases hx
  | some p =>
    rw [hp] at hx
    injection hx with hx
    simp only [World.cell?, heap_alloc_new]
    simp [hp, strV_of hx]
def ipF : Nat → List (List UInt8) → Option Nat
  | n, [] => some n
  | n, p :: ps => match digL p with
    | some k => if k ≤ 255 then ipF (n * 256 + k) ps else none
    | none => none
def ipO (l : List UInt8) : Option Nat := if (cutAt 46 l).length = 4 then ipF 0 (cutAt 46 l) else none
def ipR (l : List UInt8) : Int × Int := match ipO l with
  | some k => (k, 0)
  | none => (0, 150)
theorem ipR_none {l : List UInt8} (h : ipO l = none) : ipR l = (0, 150) := by unfold ipR; rw [h]
theorem ipR_some {l : List UInt8} {k : Nat} (h : ipO l = some k) : ipR l = ((k : Int), 0) := by unfold ipR; rw [h]
theorem ipF_bad {n : Nat} {p : List UInt8} {ps : List (List UInt8)} (h : digL p = none) : ipF n (p :: ps) = none := by unfold ipF; rw [h]
theorem ipF_big {n k : Nat} {p : List UInt8} {ps : List (List UInt8)} (h : digL p = some k) (hk : 255 < k) : ipF n (p :: ps) = none := by unfold ipF; rw [h]; simp only; rw [if_neg (by omega)]
theorem ipF_step {n k : Nat} {p : List UInt8} {ps : List (List UInt8)} (h : digL p = some k) (hk : k ≤ 255) : ipF n (p :: ps) = ipF (n * 256 + k) ps := by
  conv => lhs; unfold ipF
  rw [h]; simp only; rw [if_pos hk]
/-- What Ip answers, either side. -/
def IRet (l : List UInt8) (w : World) (e : Ending) (w' : World) : Prop := e = .returned (.tuple #[.int .i64 (ipR l).1, .int .i64 (ipR l).2]) ∧ Below w.heap.size w w'
theorem IRet.bad {l : List UInt8} {w w' : World} (h : ipO l = none) (hb : Below w.heap.size w w') : IRet l w (.returned (.tuple #[.int .i64 0, .int .i64 150])) w' := ⟨by rw [ipR_none h], hb⟩
theorem IRet.good {l : List UInt8} {w w' : World} {k : Nat} (h : ipO l = some k) (hb : Below w.heap.size w w') : IRet l w (.returned (.tuple #[.int .i64 k, .int .i64 0])) w' := ⟨by rw [ipR_some h], hb⟩
/-- What holds ahead of a round. -/
structure Ist (w : World) (l : List UInt8) (ao : Option Addr) (i n : Nat) (wx : World) : Prop where
  below : Below w.heap.size w wx
  row : WRow wx ao 4 (cutAt 46 l)
  lt : n < 256 ^ i
  eq : ipF n ((cutAt 46 l).drop i) = ipO l
theorem parts_at {l : List UInt8} {c : UInt8} {i : Nat} (h : (cutAt c l).length = 4) (hi : i < 4) : ∃ p, (cutAt c l)[i]? = some p ∧ (cutAt c l).drop i = p :: (cutAt c l).drop (i + 1) := by
  have h2 : i < (cutAt c l).length := by omega
  exact ⟨_, List.getElem?_eq_getElem h2, List.drop_eq_getElem_cons h2⟩
theorem pow_256 {n i : Nat} (h : n < 256 ^ i) (hi : i < 4) : n < 256 ^ 3 := Nat.lt_of_lt_of_le h (Nat.pow_le_pow_right (by decide) (by omega))
theorem pow_256n {n i k : Nat} (h : n < 256 ^ i) (hk : k ≤ 255) : n * 256 + k < 256 ^ (i + 1) := by rw [Nat.pow_succ]; omega
set_option maxRecDepth 1000000 in
set_option maxHeartbeats 3200000 in
theorem ip_any (s : ByteArray) (hs : s.size ≤ 1048576) (w : World) (hc : Consts w) : Calls Tryz.prog 23 #[.string s] w (IRet s.data.toList w) := by
  have HS := Lib.hid (split_any s 46 hs w hc)
  clear hc
  by_cases h4 : (cutAt 46 s.data.toList).length = 4
  · rw [h4] at HS
    have H4 := Lib.hid h4
    have HO := Lib.hid (show ipF 0 (cutAt 46 s.data.toList) = ipO s.data.toList by unfold ipO; rw [if_pos h4])
    clear h4
    go_enter Tryz.func23, Tryz.ntmps23
    go_wp2_with (go_at_call 35; refine HS.out.mono ?_; rintro e w1 ⟨ao, cap, rfl, hr1, hb1⟩; have HR1 : Hid (Ist w s.data.toList ao 0 0 w1) := Lib.hid ⟨hb1, hr1, by decide, HO.out⟩; clear hr1 hb1)
    go_loopg [5, 14] 4 (fun g s5 s14 wx => ∃ i n : Nat, i + g = 4 ∧ s5 = .int .i64 n ∧ s14 = .int .i64 i ∧ Hid (Ist w s.data.toList ao i n wx))
    case atStart => exact ⟨0, 0, by omega, rfl, rfl, HR1⟩
    case round =>
      obtain ⟨i, n, hig, rfl, rfl, HR⟩ := hrel
      cases gk with
      | zero =>
        obtain rfl : i = 4 := by omega
        have HF := Lib.hid (show ipO s.data.toList = some n by rw [← HR.out.eq, List.drop_of_length_le (by rw [H4.out]; exact Nat.le_refl _)]; rfl)
        go_wp2
        go_ret2
        exact IRet.good HF.out HR.out.below
      | succ g =>
        have c0 : (i : Int) < 4 := by omega
        obtain ⟨p, hp, hd⟩ := parts_at H4.out (show i < 4 by omega)
        obtain ⟨b, rfl, hb, hcb⟩ := HR.out.row.row (by decide)
        have d0 : wr.cell? ⟨b, i, none⟩ = some (.string ⟨p.toArray⟩) := hcb i p hp
        have HD := Lib.hid hd
        have HDg := Lib.hid (digits_any ⟨p.toArray⟩ wr)
        clear hcb hb hp hd
        cases hk : digL p with
        | none =>
          have HF := Lib.hid (show ipO s.data.toList = none by rw [← HR.out.eq, HD.out, ipF_bad hk])
          have HK := Lib.hid hk
          clear hk
          go_wp2_with (go_at_call 51; refine HDg.out.mono ?_; rintro e w2 ⟨m, ok, rfl, hg1, hg2, hw2⟩; have hw2 := hw2.symm; subst hw2; obtain rfl := hg2 HK.out; clear hg1 hg2)
          go_ret2
          exact IRet.bad HF.out HR.out.below
        | some k =>
          have HK := Lib.hid hk
          by_cases hk2 : 255 < k
          · have c1 : (255 : Int) < (k : Int) := by omega
            have HF := Lib.hid (show ipO s.data.toList = none by rw [← HR.out.eq, HD.out, ipF_big hk hk2])
            clear hk
            go_wp2_with (go_at_call 51; refine HDg.out.mono ?_; rintro e w2 ⟨m, ok, rfl, hg1, hg2, hw2⟩; have hw2 := hw2.symm; subst hw2; obtain ⟨rfl, rfl⟩ := hg1 k HK.out; clear hg1 hg2)
            go_ret2
            exact IRet.bad HF.out HR.out.below
          · have c1 : ¬ (255 : Int) < (k : Int) := by omega
            have ho := or_shift n k (by have := pow_256 HR.out.lt (show i < 4 by omega); omega) (by omega)
            have HN : Hid (Ist w s.data.toList (some ⟨b, 0, none⟩) (i + 1) (n * 256 + k) wr) := Lib.hid ⟨HR.out.below, HR.out.row, pow_256n HR.out.lt (by omega), by rw [← HR.out.eq, HD.out, ipF_step hk (by omega)]⟩
            clear hk
            go_wp2_with (go_at_call 51; refine HDg.out.mono ?_; rintro e w2 ⟨m, ok, rfl, hg1, hg2, hw2⟩; have hw2 := hw2.symm; subst hw2; obtain ⟨rfl, rfl⟩ := hg1 k HK.out; clear hg1 hg2)
            go_roundg g
            case measure => omega
            case rel => exact ⟨i + 1, _, by omega, by first | rfl | (rw [ho]; done), by first | (simp; done) | (simp; omega), HN⟩
  · have HF := Lib.hid (show ipO s.data.toList = none by unfold ipO; rw [if_neg h4])
    have hne := cutAt_ne 46 s.data.toList
    obtain ⟨p, hp⟩ : ∃ p, (cutAt 46 s.data.toList)[0]? = some p := ⟨_, List.getElem?_eq_getElem (List.length_pos_iff.2 hne)⟩
    have hpos : 0 < (cutAt 46 s.data.toList).length := List.length_pos_iff.2 hne
    have HP := Lib.hid hp
    clear hne hp
    generalize hN : (cutAt 46 s.data.toList).length = N at *
    have HNN := Lib.hid hN
    clear hN
    have c0 : (0 : Int) < (N : Int) := by omega
    have c1 : ((N : Int) != 4) = true := by simp; omega
    go_enter Tryz.func23, Tryz.ntmps23
    go_wp2_with (go_at_call 35; refine HS.out.mono ?_; rintro e w1 ⟨ao, cap, rfl, hr1, hb1⟩; have HR1 := Lib.hid hr1; have HB1 := Lib.hid hb1; clear hr1 hb1)
    go_loopg [5, 14] 1 (fun g s5 s14 wx => g = 1 ∧ s5 = .int .i64 0 ∧ s14 = .int .i64 0 ∧ wx = w1)
    case atStart => exact ⟨rfl, rfl, rfl, rfl⟩
    case round =>
      obtain ⟨hg, rfl, rfl, hwx⟩ := hrel
      have hwx := hwx.symm
      subst hwx
      obtain ⟨b, rfl, hb, hcb⟩ := HR1.out.row hpos
      have d0 : w1.cell? ⟨b, 0, none⟩ = some (.string ⟨p.toArray⟩) := hcb 0 p HP.out
      have HDg := Lib.hid (digits_any ⟨p.toArray⟩ w1)
      clear hcb hb
      cases hk : digL p with
      | none =>
        have HK := Lib.hid hk
        clear hk
        go_wp2_with (go_at_call 51; refine HDg.out.mono ?_; rintro e w2 ⟨m, ok, rfl, hg1, hg2, hw2⟩; have hw2 := hw2.symm; subst hw2; obtain rfl := hg2 HK.out; clear hg1 hg2)
        go_ret2
        exact IRet.bad HF.out HB1.out
      | some k =>
        have HK := Lib.hid hk
        clear hk
        by_cases hk2 : 255 < k
        · have c2 : (255 : Int) < (k : Int) := by omega
          go_wp2_with (go_at_call 51; refine HDg.out.mono ?_; rintro e w2 ⟨m, ok, rfl, hg1, hg2, hw2⟩; have hw2 := hw2.symm; subst hw2; obtain ⟨rfl, rfl⟩ := hg1 k HK.out; clear hg1 hg2)
          go_ret2
          exact IRet.bad HF.out HB1.out
        · have c2 : ¬ (255 : Int) < (k : Int) := by omega
          go_wp2_with (go_at_call 51; refine HDg.out.mono ?_; rintro e w2 ⟨m, ok, rfl, hg1, hg2, hw2⟩; have hw2 := hw2.symm; subst hw2; obtain ⟨rfl, rfl⟩ := hg1 k HK.out; clear hg1 hg2)
          go_ret2
          exact IRet.bad HF.out HB1.out
end Go.Proofs.Cn
