/- secrets: the document's fits, Find, Fault. -/
import Derived.Test.YtalanklghmcajaaGreatDoorPrSaF
import Derived.Test.YtalanklghmcajaaGreatDoorPrSaI
import Derived.Test.YtalanklghmcajaaGreatDoorPrSfB
import Derived.Test.YtalanklghmcajaaGreatDoorPrSbK
namespace Go.Proofs.Sa
open Go Go.RowKit Go.Pl
theorem Ints.setCell4 {w0 w : World} {ao : Option Addr} {n : Nat} {zs : List Int} (h : Ints w ao n zs) (hb : ∀ a, ao = some a → 0 < n → a.block < w0.heap.size) {a b c d : Value} : Ints ((((w.setCell ⟨w0.heap.size, 0, none⟩ a).setCell ⟨w0.heap.size, 1, none⟩ b).setCell ⟨w0.heap.size, 2, none⟩ c).setCell ⟨w0.heap.size, 3, none⟩ d) ao n zs :=
  ⟨h.len, h.wf, fun h0 => by
    obtain ⟨k, off, h1, h2, h3⟩ := h.row h0
    have hk : k ≠ w0.heap.size := by have := hb _ h1 h0; simp at this; omega
    refine ⟨k, off, h1, by simp only [setCell_size]; exact h2, fun j hj => ?_⟩
    have := h3 j hj
    simp only [World.cell?] at this ⊢
    rw [setCell_other hk, setCell_other hk, setCell_other hk, setCell_other hk]
    exact this⟩
def fitsI (cl sv : ByteArray) (x : Sec) : Int := if !sameB x.c cl && !starB x.c then -1 else if !sameB x.sv sv && !starB x.sv then -1 else rankI cl sv x
set_option maxRecDepth 1000000 in
set_option maxHeartbeats 1600000 in
theorem fits_any (x : Sec) (cl sv : ByteArray) (w : World) : Calls Tryz.prog 37 #[x.val, .string cl, .string sv] w fun e w' => e = .returned (.int .i64 (fitsI cl sv x)) ∧ Below w.heap.size w w' := by
  obtain ⟨c, s, wd, ao, n, cap, zs⟩ := x
  have HB := Lib.hid (Box4.start w (.string c) (.string s) (.string wd) (.slice ao n cap) 24)
  have k0 := HB.out.k0
  have k1 := HB.out.k1
  cases hC : (c.toList == cl.toList) <;> cases hD : (c.toList == [42]) <;> cases hE : (s.toList == sv.toList) <;> cases hF : (s.toList == [42]) <;>
    (go_enter Tryz.func37, Tryz.ntmps37
     go_wp2
     go_ret
     exact ⟨by simp [fitsI, rankI, sameB, starB, hC, hD, hE, hF], HB.out.below⟩)
theorem step_fits {cl sv : ByteArray} (hcl : starB cl = false) (hsv : starB sv = false) (i : Nat) (s : Int × Int) (x : Sec) (hs : -1 ≤ s.1) : stepF cl sv i s x = if x.right = 0 ∧ s.1 < fitsI cl sv x then (fitsI cl sv x, (i : Int)) else s := by
  unfold stepF skipB fitsI
  rw [hcl, hsv]
  cases h1 : (!sameB x.c cl && !starB x.c) <;> cases h2 : (!sameB x.sv sv && !starB x.sv) <;> by_cases h3 : x.right = 0 <;> simp [h3] <;> intro h <;> omega
theorem fits_nonneg {cl sv : ByteArray} {x : Sec} {b : Int} (hb : -1 ≤ b) (h : b < fitsI cl sv x) : 0 ≤ fitsI cl sv x := by omega
theorem found_star {l : List Sec} {cl sv : ByteArray} (h : (starB cl || starB sv) = true) : foundR l cl sv = (zeroSec, false) := by
  have hk : scanF cl sv 0 (-1, 0) l = (-1, 0) := scan_keep cl sv _ l 0 fun x _ => .inl (by unfold skipB; rw [h]; simp)
  unfold foundR
  rw [hk]
  rfl
/-- What the document's Find answers: the secret as it lies. -/
def RFound (l : List Sec) (cl sv : ByteArray) (w : World) (e : Ending) (w' : World) : Prop := ∃ ao' cap', e = .returned (.tuple #[.agg #[.string (foundR l cl sv).1.c, .string (foundR l cl sv).1.sv, .string (foundR l cl sv).1.wd, .slice ao' (foundR l cl sv).1.n cap'], .bool (foundR l cl sv).2]) ∧
  Ints w' ao' (foundR l cl sv).1.n (foundR l cl sv).1.zs ∧ Below w.heap.size w w' ∧ ((ao' = none ∧ (foundR l cl sv).1.n = 0 ∧ (foundR l cl sv).1.zs = []) ∨ ∃ y ∈ l, y.ao = ao' ∧ y.n = (foundR l cl sv).1.n ∧ y.zs = (foundR l cl sv).1.zs)
/-- The secrets' numbers have room. -/
def Room (l : List Sec) : Prop := ∀ x ∈ l, x.n ≤ x.cap ∧ x.cap ≤ 9223372036854775807
set_option maxRecDepth 1000000 in
set_option maxHeartbeats 6400000 in
theorem rfind_any (ao : Option Addr) (n cap : Nat) (l : List Sec) (cl sv : ByteArray) (w : World) (hz : Secs w ao n l) (hn : n ≤ 1048576) (hr : Room l) : Calls Tryz.prog 15 #[.slice ao n cap, .string cl, .string sv] w fun e w' => RFound l cl sv w e w' := by
  have HZ := Lib.hid hz
  have HRm := Lib.hid hr
  clear hz hr
  have zero : ∀ wx : World, wx.heap[w.heap.size]? = some (.cells zeroS 24 (0, 0)) → (wx.cell? ⟨w.heap.size, 0, none⟩ = some (.string ⟨#[]⟩) ∧ wx.cell? ⟨w.heap.size, 1, none⟩ = some (.string ⟨#[]⟩) ∧ wx.cell? ⟨w.heap.size, 2, none⟩ = some (.string ⟨#[]⟩) ∧ wx.cell? ⟨w.heap.size, 3, none⟩ = some (.slice none 0 0)) ∧
      wx.frozen? ⟨w.heap.size, 0, none⟩ = false ∧ wx.frozen? ⟨w.heap.size, 1, none⟩ = false ∧ wx.frozen? ⟨w.heap.size, 2, none⟩ = false ∧ wx.frozen? ⟨w.heap.size, 3, none⟩ = false := fun wx h => by
    refine ⟨⟨?_, ?_, ?_, ?_⟩, ?_, ?_, ?_, ?_⟩ <;> simp [World.cell?, World.frozen?, h]
  have HZERO := Lib.hid zero
  clear zero
  cases hst : (starB cl || starB sv) with
  | true =>
    have hfr := found_star (l := l) hst
    have hz0 : (w.alloc (.cells zeroS 24)).heap[w.heap.size]? = some (.cells zeroS 24 (0, 0)) := heap_alloc_new w _
    obtain ⟨⟨z0, z1, z2, z3⟩, y0, y1, y2, y3⟩ := HZERO.out _ hz0
    have HZ0 := Lib.hid hz0
    clear hz0
    have fin : ∀ e w', e = Ending.returned (.tuple #[.agg zeroS, .bool false]) → Below w.heap.size w w' → RFound l cl sv w e w' := fun e w' he hb => by
      unfold RFound
      rw [hfr]
      exact ⟨none, 0, he, ints_nil _, hb, .inl ⟨rfl, rfl, rfl⟩⟩
    have HF := Lib.hid fin
    clear fin
    cases hA : (cl.toList == [42]) with
    | true =>
      go_enter Tryz.func15, Tryz.ntmps15
      go_wp2
      refine bodyPost_ret (results_cell_row_tmp rfl _ _ w.heap.size 24 zeroS (0, 0) _ rfl (by first | exact HZ0.out | simpa using HZ0.out) Tryz.underlying24 rfl (by kernel_rfl)) rfl ?_
      exact HF.out _ _ rfl ((Below.refl _ _).alloc (Nat.le_refl _) _)
    | false =>
      have hB : (sv.toList == [42]) = true := by simpa [starB, hA] using hst
      go_enter Tryz.func15, Tryz.ntmps15
      go_wp2
      refine bodyPost_ret (results_cell_row_tmp rfl _ _ w.heap.size 24 zeroS (0, 0) _ rfl (by first | exact HZ0.out | simpa using HZ0.out) Tryz.underlying24 rfl (by kernel_rfl)) rfl ?_
      exact HF.out _ _ rfl ((Below.refl _ _).alloc (Nat.le_refl _) _)
  | false =>
    have hA : (cl.toList == [42]) = false := by simp only [Bool.or_eq_false_iff] at hst; exact hst.1
    have hB : (sv.toList == [42]) = false := by simp only [Bool.or_eq_false_iff] at hst; exact hst.2
    go_enter Tryz.func15, Tryz.ntmps15
    go_wp2
    go_loopg [8, 9, 22] n (fun g s8 s9 s22 wx => ∃ (i : Nat) (b a c : Int), i + g = n ∧ s22 = .int .i64 i ∧ s8 = .int .i64 b ∧ s9 = .int .i64 c ∧ Hid (Since w wx ∧ scanF cl sv i (b, a) (l.drop i) = scanF cl sv 0 (-1, 0) l ∧ Good l b a ∧ -1 ≤ b ∧ c = if b < 0 then -1 else a))
    case atStart => exact ⟨0, -1, 0, -1, by omega, rfl, rfl, rfl, Below.refl _ _, rfl, fun h => absurd h (by decide), by decide, rfl⟩
    case round =>
      obtain ⟨i, bst, at_, c9, hig, rfl, rfl, rfl, HR⟩ := hrel
      cases gk with
      | zero =>
        obtain rfl : i = n := by omega
        have hsc := HR.out.2.1
        rw [List.drop_eq_nil_of_le (by rw [HZ.out.len]; exact Nat.le_refl _)] at hsc
        have hsc' : scanF cl sv 0 (-1, 0) l = (bst, at_) := hsc.symm
        have hz0 := HR.out.1.zero
        have HS := Lib.hid (HZ.out.kept HR.out.1.below)
        obtain ⟨⟨z0, z1, z2, z3⟩, y0, y1, y2, y3⟩ := HZERO.out _ hz0
        have HZ0 := Lib.hid hz0
        by_cases hneg : bst < 0
        · have hfr : foundR l cl sv = (zeroSec, false) := by unfold foundR; rw [hsc', if_pos hneg]
          obtain rfl : c9 = -1 := by have := HR.out.2.2.2.2; rwa [if_pos hneg] at this
          clear hz0 hsc hsc'
          go_wp2
          have f3 := setCell_same (o := 3) (setCell_same (o := 2) (setCell_same (o := 1) (setCell_same (o := 0) HZ0.out (.string ⟨#[]⟩)) (.string ⟨#[]⟩)) (.string ⟨#[]⟩)) (.slice none 0 0)
          refine bodyPost_ret (results_cell_row_tmp rfl _ _ w.heap.size 24 zeroS (0, 0) _ rfl (by simpa using f3) Tryz.underlying24 rfl (by kernel_rfl)) rfl ?_
          refine ⟨none, 0, by rw [hfr]; rfl, ?_, ?_, .inl (by rw [hfr]; exact ⟨rfl, rfl, rfl⟩)⟩
          · rw [hfr]; exact ints_nil _
          · exact setCell_below (setCell_below (setCell_below (setCell_below HR.out.1.below (Nat.le_refl _) _) (Nat.le_refl _) _) (Nat.le_refl _) _) (Nat.le_refl _) _
        · obtain ⟨k, y, rfl, hy, hright⟩ := HR.out.2.2.1 (by omega)
          obtain rfl : c9 = k := by have := HR.out.2.2.2.2; rwa [if_neg hneg] at this
          have hk : k < l.length := (List.getElem?_eq_some_iff.1 hy).1
          rw [HZ.out.len] at hk
          have hki : (k : Int) < (i : Int) := by omega
          have hk0 : ¬ ((k : Int) < 0) := by omega
          have hfr : foundR l cl sv = (y, true) := by unfold foundR; rw [hsc', if_neg hneg]; simp [hy]
          obtain ⟨b, off, rfl, hb, hc⟩ := HS.out.row (by omega)
          obtain ⟨q0, q1, q2, q3⟩ := hc k y hy
          have HI := Lib.hid (HS.out.ints y (List.mem_of_getElem? hy))
          have hlb : ∀ a, y.ao = some a → 0 < y.n → a.block < w.heap.size := fun a ha h0 => by
            obtain ⟨b', off', h1, h2, _⟩ := (HZ.out.ints y (List.mem_of_getElem? hy)).row h0
            rw [h1] at ha; cases ha; exact h2
          have HLB := Lib.hid hlb
          have HFR := Lib.hid hfr
          have HYM := Lib.hid (List.mem_of_getElem? hy)
          clear hz0 hsc hsc' hy hb hc hlb hfr
          go_wp2
          have f3 := setCell_same (o := 3) (setCell_same (o := 2) (setCell_same (o := 1) (setCell_same (o := 0) HZ0.out (.string y.c)) (.string y.sv)) (.string y.wd)) (.slice y.ao y.n y.cap)
          refine bodyPost_ret (results_cell_row_tmp rfl _ _ w.heap.size 24 #[.string y.c, .string y.sv, .string y.wd, .slice y.ao y.n y.cap] (0, 0) _ rfl (by simpa using f3) Tryz.underlying24 rfl (by kernel_rfl)) rfl ?_
          refine ⟨y.ao, y.cap, by rw [HFR.out]; rfl, ?_, ?_, .inr ⟨y, HYM.out, rfl, by rw [HFR.out], by rw [HFR.out]⟩⟩
          · rw [HFR.out]
            exact HI.out.setCell4 HLB.out
          · exact setCell_below (setCell_below (setCell_below (setCell_below HR.out.1.below (Nat.le_refl _) _) (Nat.le_refl _) _) (Nat.le_refl _) _) (Nat.le_refl _) _
      | succ g =>
        have hi : (i : Int) < (n : Int) := by omega
        have hwr : wrap64 ((i : Int) + 1) = (i : Int) + 1 := by unfold wrap64; omega
        have HWR := Lib.hid hwr
        clear hwr
        have hil : i < l.length := by rw [HZ.out.len]; omega
        obtain ⟨x, hx⟩ : ∃ x, l[i]? = some x := ⟨_, List.getElem?_eq_getElem hil⟩
        have HS := Lib.hid (HZ.out.kept HR.out.1.below)
        obtain ⟨b, off, rfl, hb, hc⟩ := HS.out.row (by omega)
        obtain ⟨q0, q1, q2, q3⟩ := hc i x hx
        have HI := Lib.hid (HS.out.ints x (List.mem_of_getElem? hx))
        have HD := Lib.hid (sdrop hx)
        have HX := Lib.hid hx
        have HRx := Lib.hid (HRm.out x (List.mem_of_getElem? hx))
        clear hc hx hb hil
        have HB := Lib.hid (Box4.start wr (.string x.c) (.string x.sv) (.string x.wd) (.slice x.ao x.n x.cap) 24)
        have k0 := HB.out.k0
        have k1 := HB.out.k1
        have k2 := HB.out.k2
        have k3 := HB.out.k3
        have HF := Lib.hid (fits_any x cl sv (wr.alloc (.cells #[.string x.c, .string x.sv, .string x.wd, .slice x.ao x.n x.cap] 24)))
        have HC := Lib.hid (fun w' (hb : Below wr.heap.size wr w') => rright_any x.c x.sv x.wd x.ao x.n x.cap x.zs w' (HI.out.kept hb) HRx.out.1 HRx.out.2)
        have hsc := HR.out.2.1
        rw [HD.out, scan_step, step_fits hA hB i (bst, at_) x HR.out.2.2.2.1] at hsc
        generalize hf : fitsI cl sv x = f at *
        cases h0 : (x.right == 0) with
        | true =>
          have h1 : x.right = 0 := by simpa using h0
          have hr3 : rightR x.c x.sv x.wd x.zs = 0 := h1
          by_cases hlt : bst < f
          · rw [if_pos ⟨h1, hlt⟩] at hsc
            have hf0 : ¬ f < 0 := by have := HR.out.2.2.2.1; omega
            have HS2 := Lib.hid hsc
            clear hsc h0
            go_wp2_with (first
              | (go_at_call 37; refine HF.out.mono ?_; rintro e w2 ⟨rfl, hb2⟩; have HB2 := Lib.hid (HB.out.next hb2); have m0 := HB2.out.k0; have m1 := HB2.out.k1; have m2 := HB2.out.k2; have m3 := HB2.out.k3; clear hb2)
              | (go_at_call 11; refine (HC.out _ HB2.out.below).mono ?_; rintro e w3 ⟨rfl, hb3⟩; rw [hr3]; have HB3 := Lib.hid (HB2.out.next hb3); clear hb3))
            go_roundg g
            case measure => omega
            case rel => exact ⟨i + 1, f, i, i, by omega, by simp, rfl, rfl, HR.out.1.step HB3.out.below, HS2.out, fun _ => ⟨i, x, rfl, HX.out, h1⟩, by have := HR.out.2.2.2.1; omega, by rw [if_neg (by omega)]⟩
          · rw [if_neg (fun h => hlt h.2)] at hsc
            have HS2 := Lib.hid hsc
            clear hsc h0
            go_wp2_with (first
              | (go_at_call 37; refine HF.out.mono ?_; rintro e w2 ⟨rfl, hb2⟩; have HB2 := Lib.hid (HB.out.next hb2); have m0 := HB2.out.k0; have m1 := HB2.out.k1; have m2 := HB2.out.k2; have m3 := HB2.out.k3; clear hb2)
              | (go_at_call 11; refine (HC.out _ HB2.out.below).mono ?_; rintro e w3 ⟨rfl, hb3⟩; rw [hr3]; have HB3 := Lib.hid (HB2.out.next hb3); clear hb3))
            go_roundg g
            case measure => omega
            case rel => exact ⟨i + 1, bst, at_, c9, by omega, by simp, rfl, rfl, HR.out.1.step HB3.out.below, HS2.out, HR.out.2.2.1, HR.out.2.2.2⟩
        | false =>
          have h1 : ¬ x.right = 0 := by simpa using h0
          have hr3 : (rightR x.c x.sv x.wd x.zs == 0) = false := h0
          rw [if_neg (fun h => h1 h.1)] at hsc
          have HS2 := Lib.hid hsc
          clear hsc h0
          go_wp2_with (first
            | (go_at_call 37; refine HF.out.mono ?_; rintro e w2 ⟨rfl, hb2⟩; have HB2 := Lib.hid (HB.out.next hb2); have m0 := HB2.out.k0; have m1 := HB2.out.k1; have m2 := HB2.out.k2; have m3 := HB2.out.k3; clear hb2)
            | (go_at_call 11; refine (HC.out _ HB2.out.below).mono ?_; rintro e w3 ⟨rfl, hb3⟩; have HB3 := Lib.hid (HB2.out.next hb3); clear hb3))
          go_roundg g
          case measure => omega
          case rel => exact ⟨i + 1, bst, at_, c9, by omega, by simp, rfl, rfl, HR.out.1.step HB3.out.below, HS2.out, HR.out.2.2.1, HR.out.2.2.2⟩
end Go.Proofs.Sa
