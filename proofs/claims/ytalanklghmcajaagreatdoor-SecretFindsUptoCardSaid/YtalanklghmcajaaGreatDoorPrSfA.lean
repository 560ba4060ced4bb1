/- secrets: slices.Equal, slices.Contains of whole numbers; Allowed, by either side. -/
import Derived.Test.YtalanklghmcajaaGreatDoorPrSaJ
namespace Go.Proofs.Sa
open Go Go.RowKit Go.Pl
theorem drop_at {zs : List Int} {i n : Nat} (h : zs.length = n) (hi : i < n) : zs.drop i = zs.getD i 0 :: zs.drop (i + 1) := by
  rw [List.drop_eq_getElem_cons (by omega)]; simp [List.getD, List.getElem?_eq_getElem (show i < zs.length by omega)]
set_option maxRecDepth 1000000 in
set_option maxHeartbeats 1600000 in
theorem equal_any (ao ao' : Option Addr) (n cap n' cap' : Nat) (zs zs' : List Int) (w : World) (hx : Ints w ao n zs) (hy : Ints w ao' n' zs') (hn : n ≤ 1048576) :
    Calls Tryz.prog 40 #[.slice ao n cap, .slice ao' n' cap'] w fun e w' => e = .returned (.bool (zs == zs')) ∧ Below w.heap.size w w' := by
  have HX := Lib.hid hx
  have HY := Lib.hid hy
  clear hx hy
  go_enter Tryz.func40, Tryz.ntmps40
  by_cases e3 : n = n'
  case neg =>
    have e3' : ((n : Int) != (n' : Int)) = true := by simp; omega
    have hr : (zs == zs') = false := by
      simp only [beq_eq_false_iff_ne]
      intro h
      exact e3 (by rw [← HX.out.len, ← HY.out.len, h])
    go_wp2
    go_ret
    exact ⟨by simp [hr], Below.refl _ _⟩
  subst e3
  go_wp2
  go_loopg [13] n (fun g s13 wx => ∃ i : Nat, i + g = n ∧ s13 = .int .i64 i ∧ Hid (Below w.heap.size w wx ∧ (zs.drop i == zs'.drop i) = (zs == zs')))
  case atStart => exact ⟨0, by omega, rfl, Below.refl _ _, rfl⟩
  case round =>
    obtain ⟨i, hig, rfl, HR⟩ := hrel
    cases gk with
    | zero =>
      obtain rfl : i = n := by omega
      have hr : (zs == zs') = true := by
        rw [← HR.out.2, List.drop_eq_nil_of_le (by rw [HX.out.len]; exact Nat.le_refl _), List.drop_eq_nil_of_le (by rw [HY.out.len]; exact Nat.le_refl _)]; rfl
      go_wp2
      go_ret
      exact ⟨by simp [hr], HR.out.1⟩
    | succ g =>
      have hi : (i : Int) < (n : Int) := by omega
      have hlx := HX.out.len
      have hly := HY.out.len
      obtain ⟨b, off, rfl, hb, hc⟩ := HX.out.row (by omega)
      obtain ⟨b', off', rfl, hb', hc'⟩ := HY.out.row (by omega)
      have q0 := (HR.out.1.cell (p := ⟨b, off + i, none⟩) hb).trans (hc i (by omega))
      have q1 := (HR.out.1.cell (p := ⟨b', off' + i, none⟩) hb').trans (hc' i (by omega))
      have hst := HR.out.2
      rw [drop_at hlx (by omega), drop_at hly (by omega)] at hst
      have HS := Lib.hid hst
      clear hst hc hc'
      generalize zs.getD i 0 = a at *
      generalize zs'.getD i 0 = a' at *
      cases he : (a == a')
      · have hne : (a != a') = true := by simp [bne, he]
        have hr : (zs == zs') = false := by
          rw [← HS.out, List.cons_beq_cons, he]; rfl
        go_wp2
        go_quiet (fail)
        go_wp2
        go_ret
        exact ⟨by simp [hr], drawn HR.out.1 _⟩
      · obtain rfl : a = a' := by simpa using he
        have hne : (a != a) = false := by simp
        have hst : (zs.drop (i + 1) == zs'.drop (i + 1)) = (zs == zs') := by
          rw [← HS.out, List.cons_beq_cons]; simp
        have HT := Lib.hid hst
        have hwr : wrap64 ((i : Int) + 1) = (i : Int) + 1 := by unfold wrap64; omega
        have HWR := Lib.hid hwr
        clear hst hwr
        go_wp2
        go_quiet (fail)
        go_wp2
        go_roundg g
        case measure => omega
        case rel => exact ⟨i + 1, by omega, by simp, drawn HR.out.1 _, HT.out⟩
/-- Where a number stands. -/
def indexR (a : Int) : List Int → Int → Int
  | [], _ => -1
  | z :: l, i => if a = z then i else indexR a l (i + 1)
theorem index_neg (a : Int) : ∀ (l : List Int) (i : Int), 0 ≤ i → (0 ≤ indexR a l i ↔ l.contains a = true)
  | [], i, _ => by simp [indexR]
  | z :: l, i, h => by
    unfold indexR
    split
    · rename_i e; subst e; simp [h]
    · rename_i e
      rw [index_neg a l (i + 1) (by omega)]
      simp [e]
set_option maxRecDepth 1000000 in
theorem index_any (ao : Option Addr) (n cap : Nat) (zs : List Int) (a : Int) (w : World) (hx : Ints w ao n zs) (hn : n ≤ 1048576) :
    Calls Tryz.prog 55 #[.slice ao n cap, .int .i64 a] w fun e w' => e = .returned (.int .i64 (indexR a zs 0)) ∧ w' = w := by
  have HX := Lib.hid hx
  clear hx
  go_enter Tryz.func55, Tryz.ntmps55
  go_wp2
  go_loopg [8] n (fun g s8 wx => ∃ i : Nat, i + g = n ∧ s8 = .int .i64 i ∧ wx = w ∧ Hid (indexR a (zs.drop i) i = indexR a zs 0))
  case atStart => exact ⟨0, by omega, rfl, rfl, rfl⟩
  case round =>
    obtain ⟨i, hig, rfl, rfl, HR⟩ := hrel
    cases gk with
    | zero =>
      obtain rfl : i = n := by omega
      have hr : indexR a zs 0 = -1 := by
        rw [← HR.out, List.drop_eq_nil_of_le (by rw [HX.out.len]; exact Nat.le_refl _)]; rfl
      go_wp2
      go_ret
      exact ⟨by simp [hr], rfl⟩
    | succ g =>
      have hi : (i : Int) < (n : Int) := by omega
      have hlx := HX.out.len
      obtain ⟨b, off, rfl, hb, hc⟩ := HX.out.row (by omega)
      have q0 := hc i (by omega)
      have hst := HR.out
      rw [drop_at hlx (by omega)] at hst
      have HS := Lib.hid hst
      clear hst hc
      generalize zs.getD i 0 = z at *
      cases he : (a == z)
      · have hne : ¬ a = z := by simpa using he
        have hst : indexR a (zs.drop (i + 1)) ((i : Int) + 1) = indexR a zs 0 := by
          rw [← HS.out]; simp [indexR, hne]
        have HT := Lib.hid hst
        have hwr : wrap64 ((i : Int) + 1) = (i : Int) + 1 := by unfold wrap64; omega
        have HWR := Lib.hid hwr
        clear hst hwr
        go_wp2
        go_roundg g
        case measure => omega
        case rel => exact ⟨i + 1, by omega, by simp, rfl, by simpa using HT⟩
      · have hne : a = z := by simpa using he
        have hr : indexR a zs 0 = i := by rw [← HS.out]; simp [indexR, hne]
        go_wp2
        go_ret
        exact ⟨by simp [hr], rfl⟩
set_option maxRecDepth 1000000 in
theorem contains_any (ao : Option Addr) (n cap : Nat) (zs : List Int) (a : Int) (w : World) (hx : Ints w ao n zs) (hn : n ≤ 1048576) :
    Calls Tryz.prog 41 #[.slice ao n cap, .int .i64 a] w fun e w' => e = .returned (.bool (zs.contains a)) ∧ w' = w := by
  have HX := Lib.hid hx
  clear hx
  go_enter Tryz.func41, Tryz.ntmps41
  have hi := index_neg a zs 0 (by decide)
  have HI := Lib.hid hi
  clear hi
  by_cases h : 0 ≤ indexR a zs 0
  · have hc : zs.contains a = true := HI.out.1 h
    go_wp2_with (go_at_call 55; refine (index_any ao n cap zs a _ HX.out hn).mono ?_; rintro e w2 ⟨rfl, rfl⟩)
    go_ret
    exact ⟨by rw [hc]; rfl, rfl⟩
  · have hc : zs.contains a = false := by
      cases hh : zs.contains a
      · rfl
      · exact absurd (HI.out.2 hh) h
    go_wp2_with (go_at_call 55; refine (index_any ao n cap zs a _ HX.out hn).mono ?_; rintro e w2 ⟨rfl, rfl⟩)
    go_ret
    exact ⟨by rw [hc]; simp; omega, rfl⟩
/-- May it have an address? -/
def allowedR (zs : List Int) (a : Int) : Bool := decide (1 ≤ a) && decide (a ≤ 4294967295) && (zs.length == 0 || zs.contains a)
set_option maxRecDepth 1000000 in
theorem allowed_any (c sv wd : ByteArray) (ao : Option Addr) (n cap : Nat) (zs : List Int) (a : Int) (w : World) (hz : Ints w ao n zs) (hn : n ≤ 1048576) : Calls Tryz.prog 18 #[.agg #[.string c, .string sv, .string wd, .slice ao n cap], .int .i64 a] w fun e w' => e = .returned (.bool (allowedR zs a)) ∧ Below w.heap.size w w' := by
  have HB := Lib.hid (Box4.start w (.string c) (.string sv) (.string wd) (.slice ao n cap) 24)
  have k3 := HB.out.k3
  have HX := Lib.hid (hz.kept HB.out.below)
  have hlen := hz.len
  clear hz
  by_cases h1 : 1 ≤ a
  · by_cases h2 : a ≤ 4294967295
    · by_cases h3 : n = 0
      · have hr : allowedR zs a = true := by simp [allowedR, h1, h2, hlen, h3]
        have h3' : (n : Int) = 0 := by omega
        subst h3
        go_enter Tryz.func18, Tryz.ntmps18
        go_wp2
        go_ret
        exact ⟨by simp [hr], HB.out.below⟩
      · have hr : allowedR zs a = zs.contains a := by simp [allowedR, h1, h2, hlen, h3]
        have h3' : ((n : Int) == 0) = false := by simp; omega
        go_enter Tryz.func18, Tryz.ntmps18
        go_wp2_with (go_at_call 41; refine (contains_any ao n cap zs a _ HX.out hn).mono ?_; rintro e w2 ⟨rfl, rfl⟩)
        go_ret
        exact ⟨by simp [hr], HB.out.below⟩
    · have hr : allowedR zs a = false := by simp [allowedR, h2]
      go_enter Tryz.func18, Tryz.ntmps18
      go_wp2
      go_ret
      exact ⟨by simp, HB.out.below⟩
  · have hr : allowedR zs a = false := by simp [allowedR, h1]
    go_enter Tryz.func18, Tryz.ntmps18
    go_wp2
    go_ret
    exact ⟨by simp, HB.out.below⟩
set_option maxRecDepth 1000000 in
theorem rallowed_any (c sv wd : ByteArray) (ao : Option Addr) (n cap : Nat) (zs : List Int) (a : Int) (w : World) (hz : Ints w ao n zs) (hn : n ≤ 1048576) : Calls Tryz.prog 19 #[.agg #[.string c, .string sv, .string wd, .slice ao n cap], .int .i64 a] w fun e w' => e = .returned (.bool (allowedR zs a)) ∧ Below w.heap.size w w' := by
  have HB := Lib.hid (Box4.start w (.string c) (.string sv) (.string wd) (.slice ao n cap) 24)
  have k3 := HB.out.k3
  have HX := Lib.hid (hz.kept HB.out.below)
  have hlen := hz.len
  clear hz
  by_cases h1 : 1 ≤ a
  · by_cases h2 : a ≤ 4294967295
    · have hr : allowedR zs a = (zs.length == 0 || zs.contains a) := by simp [allowedR, h1, h2]
      have h1' : ¬ a < 1 := by omega
      have h2' : ¬ 4294967295 < a := by omega
      go_enter Tryz.func19, Tryz.ntmps19
      go_wp2
      go_loopg [16] n (fun g s16 wx => ∃ i : Nat, i + g = n ∧ s16 = .int .i64 i ∧ wx = w.alloc (.cells #[.string c, .string sv, .string wd, .slice ao n cap] 24) ∧ Hid ((zs.drop i).contains a = zs.contains a))
      case atStart => exact ⟨0, by omega, rfl, rfl, rfl⟩
      case round =>
        obtain ⟨i, hig, rfl, rfl, HR⟩ := hrel
        cases gk with
        | zero =>
          obtain rfl : i = n := by omega
          have hc : zs.contains a = false := by
            rw [← HR.out, List.drop_eq_nil_of_le (by rw [hlen]; exact Nat.le_refl _)]; rfl
          by_cases h3 : i = 0
          · subst h3
            have hr2 : allowedR zs a = true := by rw [hr, hlen]; rfl
            go_wp2
            go_ret
            exact ⟨by simp, HB.out.below⟩
          · have h3' : ((i : Int) == 0) = false := by simp; omega
            have hr2 : allowedR zs a = false := by rw [hr, hlen, hc]; simp [h3]
            go_wp2
            go_ret
            exact ⟨by simp [hr2], HB.out.below⟩
        | succ g =>
          have hi : (i : Int) < (n : Int) := by omega
          obtain ⟨b, off, rfl, hb, hc⟩ := HX.out.row (by omega)
          have q0 := hc i (by omega)
          have hst := HR.out
          rw [drop_at hlen (by omega)] at hst
          have HS := Lib.hid hst
          clear hst hc
          generalize zs.getD i 0 = z at *
          cases he : (z == a)
          · have hne : ¬ a = z := by intro h; subst h; simp at he
            have hst : (zs.drop (i + 1)).contains a = zs.contains a := by
              rw [← HS.out]; simp [hne]
            have HT := Lib.hid hst
            have hwr : wrap64 ((i : Int) + 1) = (i : Int) + 1 := by unfold wrap64; omega
            have HWR := Lib.hid hwr
            clear hst hwr
            go_wp2
            go_roundg g
            case measure => omega
            case rel => exact ⟨i + 1, by omega, by simp, rfl, HT.out⟩
          · have hne : z = a := by simpa using he
            have hr2 : allowedR zs a = true := by rw [hr, ← HS.out]; simp [hne]
            go_wp2
            go_ret
            exact ⟨by simp [hr2], HB.out.below⟩
    · have hr : allowedR zs a = false := by simp [allowedR, h2]
      have h2' : 4294967295 < a := by omega
      go_enter Tryz.func19, Tryz.ntmps19
      go_wp2
      go_ret
      exact ⟨by simp, HB.out.below⟩
  · have hr : allowedR zs a = false := by simp [allowedR, h1]
    have h1' : a < 1 := by omega
    go_enter Tryz.func19, Tryz.ntmps19
    go_wp2
    go_ret
    exact ⟨by simp, HB.out.below⟩
end Go.Proofs.Sa
