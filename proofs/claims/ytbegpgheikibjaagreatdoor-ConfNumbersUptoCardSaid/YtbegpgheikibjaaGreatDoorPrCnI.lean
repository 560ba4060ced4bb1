/- options: the library's ParseUint at base 16, of one to four hexadecimal digits. -/
import Derived.Lib.ConvBytes
import Derived.Test.YtbegpgheikibjaaGreatDoorPrCnH
namespace Go.Proofs.Cn
open Go Go.RowKit Go.Pl Go.Maps Go.Proofs.Sa
theorem hexV_some {n k : Nat} {c : UInt8} {r : List UInt8} (h : hexV n (c :: r) = some k) : ∃ d, hexD c = some d ∧ hexV (n * 16 + d) r = some k := by
  unfold hexV at h
  cases hd : hexD c with
  | none => rw [hd] at h; cases h
  | some d => rw [hd] at h; exact ⟨d, rfl, h⟩
theorem lower_low : ∀ n : Nat, n < 103 → 97 ≤ n → bits BinOp.or IntKind.u8 (n : Int) 32 = (n : Int) := by decide
theorem lower_up : ∀ n : Nat, n < 71 → 65 ≤ n → bits BinOp.or IntKind.u8 (n : Int) 32 = (n : Int) + 32 := by decide
set_option maxRecDepth 1000000 in
set_option maxHeartbeats 6400000 in
theorem ipu_any (s : ByteArray) (k : Nat) (h1 : 0 < s.size) (h4 : s.size ≤ 4) (hk : hexV 0 s.data.toList = some k) (w : World) :
    Calls Tryz.prog 168 #[.string s, .int .i64 16, .int .i64 64] w fun e w' => e = .returned (.tuple #[.int .u64 k, .nilIface]) ∧ w' = Lib.bytesWorld w 5 s := by
  have HK := Lib.hid hk
  clear hk
  have hemp : s.toList.isEmpty = false := by
    rw [Lib.toList_data]
    cases hl : s.data.toList with
    | nil => rw [Lib.size_eq, hl] at h1; exact absurd h1 (by decide)
    | cons c r => rfl
  have hcv := Lib.run_convert_string_bytes (P := Tryz.prog) w 9 37 5 s (u := .string) Tryz.underlying9 Tryz.underlying37 Tryz.underlying5
  have HB := Lib.hid (fun j (hj : j < s.size) => Lib.bytesWorld_cell w 5 s j hj)
  generalize hW1 : Lib.bytesWorld w 5 s = W1 at *
  have hmv : IntKind.u64.wrap (IntKind.u64.wrap 18446744073709551616 - 1) = 18446744073709551615 := by
    rw [IntKind.wrap_u64, IntKind.wrap_u64]
    decide
  clear hW1
  go_enter Tryz.func168, Tryz.ntmps168
  go_wp2
  go_loopg [12, 13, 101] s.size (fun g s12 s13 s101 wx => ∃ (i n : Nat) (a : Int), i + g = s.size ∧ s12 = .bool false ∧ s13 = .int .u64 a ∧ s101 = .int .i64 i ∧ wx = W1 ∧ Hid (a = (n : Int) ∧ n < 16 ^ i ∧ hexV n (s.data.toList.drop i) = some k))
  case atStart => exact ⟨0, 0, 0, by omega, rfl, rfl, rfl, rfl, Lib.hid ⟨rfl, by decide, HK.out⟩⟩
  case round =>
    obtain ⟨i, n, a, hig, rfl, rfl, rfl, hwx, HR⟩ := hrel
    have hwx := hwx.symm
    subst hwx
    cases gk with
    | zero =>
      have c0 : ¬ (i : Int) < (s.size : Int) := by omega
      have HF := Lib.hid (show a = (k : Int) by
        have := HR.out.2.2
        rw [drop_end s i (by omega)] at this
        rw [HR.out.1]; injection this with this; rw [this])
      go_wp2
      go_ret2
      exact ⟨by rw [HF.out]; rfl, rfl⟩
    | succ g =>
      have hi : i < s.size := by omega
      have c0 : (i : Int) < (s.size : Int) := by omega
      have d0 := HB.out i hi
      have hget : s.data.toList.getD i 0 = s[i] := by rw [List.getD_eq_getElem?_getD, Lib.data_getElem? s i hi]; rfl
      rw [hget] at d0
      have hR := HR.out.2.2
      rw [drop_at s i hi] at hR
      obtain ⟨d, hd, hr⟩ := hexV_some hR
      have hd16 := hexD_lt hd
      have hn := pow_16 HR.out.2.1 (show i ≤ 4 by omega)
      have ha0 : 0 ≤ a := by have := HR.out.1; omega
      have ha1 : a < 65536 := by have := HR.out.1; omega
      have HN : Hid (∀ x : Int, x = (d : Int) → (a * 16 + x) = ((n * 16 + d : Nat) : Int) ∧ n * 16 + d < 16 ^ (i + 1) ∧ hexV (n * 16 + d) (s.data.toList.drop (i + 1)) = some k) :=
        Lib.hid fun x hx => ⟨by have := HR.out.1; omega, pow_16n HR.out.2.1 hd16, hr⟩
      have e1 : IntKind.u64.wrap (a * 16) = a * 16 := by rw [IntKind.wrap_u64]; omega
      have e2 : ¬ (1152921504606846976 : Int) ≤ a := by omega
      clear hget hR hr hn
      generalize s[i] = c at *
      have c5 : ((c.toNat : Int) == 95) = false := by
        by_cases h95 : c.toNat = 95
        · exfalso
          have : hexD c = none := hexD_no (by omega) (by omega) (by omega)
          rw [this] at hd; cases hd
        · simp; omega
      by_cases k1 : 48 ≤ c.toNat ∧ c.toNat ≤ 57
      · rw [hexD_dec k1] at hd
        injection hd with hd
        have c3 : (48 : Int) ≤ (c.toNat : Int) := by omega
        have c4 : (c.toNat : Int) ≤ 57 := by omega
        obtain rfl : d = c.toNat - 48 := by have := hd; omega
        have e4 : IntKind.u64.wrap (a * 16 + ((c.toNat : Int) - 48)) = a * 16 + ((c.toNat : Int) - 48) := by rw [IntKind.wrap_u64]; omega
        have e5 : ¬ a * 16 + ((c.toNat : Int) - 48) < a * 16 := by omega
        have e6 : ¬ (18446744073709551615 : Int) < a * 16 + ((c.toNat : Int) - 48) := by omega
        have HN2 := Lib.hid (HN.out ((c.toNat : Int) - 48) (by omega))
        clear HN hd hd16
        go_wp2
        go_roundg g
        case measure => omega
        case rel => exact ⟨i + 1, _, _, by omega, rfl, rfl, by first | rfl | (simp; done), rfl, HN2⟩
      by_cases k2 : 97 ≤ c.toNat ∧ c.toNat ≤ 102
      · rw [hexD_low k2] at hd
        injection hd with hd
        have HL : Hid (Calls Tryz.prog 190 #[.int .u8 c.toNat] W1 fun e w' => e = .returned (.int .u8 c.toNat) ∧ w' = W1) := Lib.hid (by
          have := Tryz.internal_strconv_lower c.toNat W1
          rw [lower_low c.toNat (by omega) (by omega)] at this
          exact this)
        have c3 : (48 : Int) ≤ (c.toNat : Int) := by omega
        have c4 : ¬ (c.toNat : Int) ≤ 57 := by omega
        have c6 : (97 : Int) ≤ (c.toNat : Int) := by omega
        have c7 : (c.toNat : Int) ≤ 122 := by omega
        have c8 : ¬ (16 : Int) ≤ (c.toNat : Int) - 97 + 10 := by omega
        obtain rfl : d = c.toNat - 87 := by have := hd; omega
        have e4 : IntKind.u64.wrap (a * 16 + ((c.toNat : Int) - 97 + 10)) = a * 16 + ((c.toNat : Int) - 97 + 10) := by rw [IntKind.wrap_u64]; omega
        have e5 : ¬ a * 16 + ((c.toNat : Int) - 97 + 10) < a * 16 := by omega
        have e6 : ¬ (18446744073709551615 : Int) < a * 16 + ((c.toNat : Int) - 97 + 10) := by omega
        have HN2 := Lib.hid (HN.out ((c.toNat : Int) - 97 + 10) (by omega))
        clear HN hd hd16
        go_wp2_with (go_at_call 190; refine HL.out.mono ?_; rintro e w5 ⟨rfl, hw5⟩; have hw5 := hw5.symm; subst hw5)
        go_roundg g
        case measure => omega
        case rel => exact ⟨i + 1, _, _, by omega, rfl, rfl, by first | rfl | (simp; done), rfl, HN2⟩
      by_cases k3 : 65 ≤ c.toNat ∧ c.toNat ≤ 70
      · rw [hexD_up k3] at hd
        injection hd with hd
        have HL : Hid (Calls Tryz.prog 190 #[.int .u8 c.toNat] W1 fun e w' => e = .returned (.int .u8 ((c.toNat : Int) + 32)) ∧ w' = W1) := Lib.hid (by
          have := Tryz.internal_strconv_lower c.toNat W1
          rw [lower_up c.toNat (by omega) (by omega)] at this
          exact this)
        have c3 : (48 : Int) ≤ (c.toNat : Int) := by omega
        have c4 : ¬ (c.toNat : Int) ≤ 57 := by omega
        have c6 : (97 : Int) ≤ (c.toNat : Int) + 32 := by omega
        have c7 : (c.toNat : Int) + 32 ≤ 122 := by omega
        have c8 : ¬ (16 : Int) ≤ (c.toNat : Int) + 32 - 97 + 10 := by omega
        obtain rfl : d = c.toNat - 55 := by have := hd; omega
        have e4 : IntKind.u64.wrap (a * 16 + ((c.toNat : Int) + 32 - 97 + 10)) = a * 16 + ((c.toNat : Int) + 32 - 97 + 10) := by rw [IntKind.wrap_u64]; omega
        have e5 : ¬ a * 16 + ((c.toNat : Int) + 32 - 97 + 10) < a * 16 := by omega
        have e6 : ¬ (18446744073709551615 : Int) < a * 16 + ((c.toNat : Int) + 32 - 97 + 10) := by omega
        have HN2 := Lib.hid (HN.out ((c.toNat : Int) + 32 - 97 + 10) (by omega))
        clear HN hd hd16
        go_wp2_with (go_at_call 190; refine HL.out.mono ?_; rintro e w5 ⟨rfl, hw5⟩; have hw5 := hw5.symm; subst hw5)
        go_roundg g
        case measure => omega
        case rel => exact ⟨i + 1, _, _, by omega, rfl, rfl, by first | rfl | (simp; done), rfl, HN2⟩
      rw [hexD_no k1 k2 k3] at hd
      cases hd
end Go.Proofs.Cn
