/- secrets: names. -/
import Derived.Test.YtnadimjglkodkaaGreatDoorProg
import Derived.WalkKit
import Derived.Deep.LoopGhost
import Derived.Lib.ConvBytes
import Derived.Shelf.Strconv.AtoiAll
import Derived.Test.YtnadimjglkodkaaGreatDoorPrSaDef
namespace Go.Proofs.Sa
open Go Go.RowKit

set_option maxRecDepth 1000000 in
theorem name_any (s : ByteArray) (w : World) : Calls Tryz.prog 93 #[.string s] w fun e w' => e = .returned (.bool (nameOk s)) ∧ Below w.heap.size w w' := by
  rcases Nat.lt_or_ge s.size 1 with h1 | h1
  · have h0 : (s.size : Int) < 1 := by omega
    have hn : nameOk s = false := by simp [nameOk]; omega
    go_enter Tryz.func93, Tryz.ntmps93
    go_wp2
    go_ret
    exact ⟨by simpa using hn, Below.refl _ _⟩
  rcases Nat.lt_or_ge 64 s.size with h2 | h2
  · have h0 : ¬ (s.size : Int) < 1 := by omega
    have h64 : (64 : Int) < s.size := by omega
    have hn : nameOk s = false := by simp [nameOk]; omega
    go_enter Tryz.func93, Tryz.ntmps93
    go_wp2
    go_ret
    exact ⟨by simp, Below.refl _ _⟩
  have h0 : ¬ (s.size : Int) < 1 := by omega
  have h64 : ¬ (64 : Int) < s.size := by omega
  have hcv := Lib.run_convert_string_bytes (P := Tryz.prog) w 9 102 5 s (u := .string) Tryz.underlying9 Tryz.underlying102 Tryz.underlying5
  go_enter Tryz.func93, Tryz.ntmps93
  go_wp2
  go_loopg [16] s.size (fun g c wx => ∃ i : Nat, i + g = s.size ∧ c = .int .i64 i ∧ wx = Lib.bytesWorld w 5 s ∧ Aside (∀ j c, j < i → s.data.toList[j]? = some c → badName c = false))
  case atStart => exact ⟨0, by omega, rfl, rfl, fun j c hj => absurd hj (Nat.not_lt_zero _)⟩
  case round =>
    obtain ⟨i, hig, rfl, rfl, HA⟩ := hrel
    cases gk with
    | zero =>
      obtain rfl : i = s.size := by omega
      go_wp2
      have hn : nameOk s = true := by unfold nameOk; rw [all_from _ _ HA.out (by rw [← Lib.size_eq]; exact Nat.le_refl _)]; simp; omega
      go_ret
      exact ⟨by rw [hn]; rfl, Lib.bytesWorld_below _ _ _⟩
    | succ g =>
      have hi : (i : Int) < (s.size : Int) := by omega
      have hc : (Lib.bytesWorld w 5 s).cell? ⟨w.heap.size, i, none⟩ = some (.int .u8 (s.data.toList.getD i 0).toNat) := Lib.bytesWorld_cell w 5 s i (by omega)
      obtain ⟨x, hx⟩ : ∃ x, s.data.toList[i]? = some x := ⟨_, List.getElem?_eq_getElem (by rw [← Lib.size_eq]; omega)⟩
      have hx' : s.data.toList.getD i 0 = x := by simp [List.getD, hx]
      rw [hx'] at hc
      have Hx : Aside (s.data.toList[i]? = some x) := hx
      clear hx hx'
      cases hb : badName x
      · have hbad := hb
        unfold badName at hb
        simp only [Bool.or_eq_false_iff, decide_eq_false_iff_not, beq_eq_false_iff_ne] at hb
        obtain ⟨⟨⟨b1, b2⟩, b3⟩, b4⟩ := hb
        have c1 : ¬ (x.toNat : Int) < 32 := by omega
        have c2 : ¬ 126 < (x.toNat : Int) := by omega
        have c3 : ((x.toNat : Int) == 34) = false := by simp; omega
        have c4 : ((x.toNat : Int) == 92) = false := by simp; omega
        go_wp2
        go_roundg g
        case measure => omega
        case rel => exact ⟨i + 1, by omega, by first | rfl | simp, rfl, upto_succ HA.out Hx.out hbad⟩
      · have hn : nameOk s = false := by unfold nameOk; rw [not_all Hx.out hb]; simp
        unfold badName at hb
        simp only [Bool.or_eq_true, decide_eq_true_eq, beq_iff_eq] at hb
        by_cases c1 : (x.toNat : Int) < 32
        · go_wp2
          go_ret
          exact ⟨by simpa using hn, Lib.bytesWorld_below _ _ _⟩
        by_cases c2 : 126 < (x.toNat : Int)
        · go_wp2
          go_ret
          exact ⟨by simp, Lib.bytesWorld_below _ _ _⟩
        by_cases c3 : x.toNat = 34
        · have c3' : ((x.toNat : Int) == 34) = true := by simp; omega
          go_wp2
          go_ret
          exact ⟨by simp, Lib.bytesWorld_below _ _ _⟩
        · have c3' : ((x.toNat : Int) == 34) = false := by simp; omega
          have c4' : ((x.toNat : Int) == 92) = true := by simp; omega
          go_wp2
          go_ret
          exact ⟨by simp, Lib.bytesWorld_below _ _ _⟩
end Go.Proofs.Sa
