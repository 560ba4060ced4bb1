/- secrets: the document's Name. -/
import Derived.Test.YtnadimjglkodkaaGreatDoorPrTzA
namespace Go.Proofs.Sa
open Go Go.RowKit Go.Pl
set_option maxRecDepth 1000000 in
set_option maxHeartbeats 1600000 in
theorem rname_any (s : ByteArray) (w : World) : Calls Tryz.prog 64 #[.string s] w fun e w' => e = .returned (.bool (nameOk s)) ∧ w' = w := by
  rcases Nat.lt_or_ge s.size 1 with h1 | h1
  · have h0 : (s.toList == []) = true := by
      have : s.data.toList = [] := by
        have := Lib.size_eq s
        exact List.eq_nil_of_length_eq_zero (by omega)
      rw [Lib.toList_data, this]; rfl
    have hn : nameOk s = false := by simp [nameOk]; omega
    go_enter Tryz.func64, Tryz.ntmps64
    go_wp2
    go_ret
    exact ⟨by simp [hn], rfl⟩
  have h0 : (s.toList == []) = false := by
    have : s.data.toList ≠ [] := fun h => by have := Lib.size_eq s; rw [h, List.length_nil] at this; omega
    rw [Lib.toList_data]; simpa using this
  rcases Nat.lt_or_ge 64 s.size with h2 | h2
  · have h64 : (64 : Int) < s.size := by omega
    have hn : nameOk s = false := by simp [nameOk]; omega
    go_enter Tryz.func64, Tryz.ntmps64
    go_wp2
    go_ret
    exact ⟨by simp [hn], rfl⟩
  have h64 : ¬ (64 : Int) < s.size := by omega
  go_enter Tryz.func64, Tryz.ntmps64
  go_wp2
  go_loopg [13] s.size (fun g c wx => ∃ i : Nat, i + g = s.size ∧ c = .int .i64 i ∧ wx = w ∧ Aside (∀ j c, j < i → s.data.toList[j]? = some c → badName c = false))
  case atStart => exact ⟨0, by omega, rfl, rfl, fun j c hj => absurd hj (Nat.not_lt_zero _)⟩
  case round =>
    obtain ⟨i, hig, rfl, rfl, HA⟩ := hrel
    cases gk with
    | zero =>
      obtain rfl : i = s.size := by omega
      have hall := all_from s.data.toList _ HA.out (by rw [← Lib.size_eq]; exact Nat.le_refl _)
      have hn : nameOk s = true := by
        unfold nameOk
        rw [hall, decide_eq_true h1, decide_eq_true h2]; rfl
      go_wp2
      go_ret
      exact ⟨by simp [hn], rfl⟩
    | succ g =>
      have hi : (i : Int) < (s.size : Int) := by omega
      have hin : i < s.size := by omega
      have Hx : Aside (s.data.toList[i]? = some (s[i]'hin)) := Lib.data_getElem? s i hin
      cases hb : badName (s[i]'hin)
      · have hbad := hb
        unfold badName at hb
        simp only [Bool.or_eq_false_iff, decide_eq_false_iff_not, beq_eq_false_iff_ne] at hb
        obtain ⟨⟨⟨b1, b2⟩, b3⟩, b4⟩ := hb
        have c1 : ¬ ((s[i]'hin).toNat : Int) < 32 := by omega
        have c2 : ¬ 126 < ((s[i]'hin).toNat : Int) := by omega
        have c3 : (((s[i]'hin).toNat : Int) == 34) = false := by simp; omega
        have c4 : (((s[i]'hin).toNat : Int) == 92) = false := by simp; omega
        have HU : Aside (∀ j c, j < i + 1 → s.data.toList[j]? = some c → badName c = false) := upto_succ HA.out Hx.out hbad
        clear hbad b1 b2 b3 b4
        go_wp2
        go_roundg g
        case measure => omega
        case rel => exact ⟨i + 1, by omega, by first | rfl | simp, rfl, HU⟩
      · have hn : nameOk s = false := by unfold nameOk; rw [not_all Hx.out hb]; simp
        unfold badName at hb
        simp only [Bool.or_eq_true, decide_eq_true_eq, beq_iff_eq] at hb
        by_cases c1 : ((s[i]'hin).toNat : Int) < 32
        · go_wp2
          go_ret
          exact ⟨by simp [hn], rfl⟩
        by_cases c2 : 126 < ((s[i]'hin).toNat : Int)
        · go_wp2
          go_ret
          exact ⟨by simp, rfl⟩
        by_cases c3 : (s[i]'hin).toNat = 34
        · have c3' : (((s[i]'hin).toNat : Int) == 34) = true := by simp; omega
          go_wp2
          go_ret
          exact ⟨by simp, rfl⟩
        · have c3' : (((s[i]'hin).toNat : Int) == 34) = false := by simp; omega
          have c4' : (((s[i]'hin).toNat : Int) == 92) = true := by simp; omega
          go_wp2
          go_ret
          exact ⟨by simp, rfl⟩
end Go.Proofs.Sa
