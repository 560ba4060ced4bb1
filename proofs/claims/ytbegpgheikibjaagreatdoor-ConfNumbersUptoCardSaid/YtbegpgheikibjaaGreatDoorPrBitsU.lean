/- Shift, or, and, and the low bits of whole numbers of 64 bits without a sign. -/
import Derived.Test.YtbegpgheikibjaaGreatDoorPrBits
namespace Go.Pl
open Go Go.RowKit
theorem wrap_u64_nat (a : Nat) (ha : a < 18446744073709551616) : IntKind.u64.wrap (a : Int) = a := by
  simp [IntKind.wrap, IntKind.bits, IntKind.signed]; omega
theorem u64_or_nat (a b : Nat) (ha : a < 18446744073709551616) (hb : b < 18446744073709551616) : bits .or .u64 (a : Int) (b : Int) = ((a ||| b : Nat) : Int) := by
  show IntKind.u64.wrap ((BitVec.ofInt 64 (a : Int) ||| BitVec.ofInt 64 (b : Int)).toNat : Int) = _
  rw [BitVec.toNat_or, ofInt_64 a (by omega), ofInt_64 b (by omega)]
  exact wrap_u64_nat _ (Nat.or_lt_two_pow (n := 64) ha hb)
theorem u64_and_nat (a b : Nat) (ha : a < 18446744073709551616) (hb : b < 18446744073709551616) : bits .and .u64 (a : Int) (b : Int) = ((a &&& b : Nat) : Int) := by
  show IntKind.u64.wrap ((BitVec.ofInt 64 (a : Int) &&& BitVec.ofInt 64 (b : Int)).toNat : Int) = _
  rw [BitVec.toNat_and, ofInt_64 a (by omega), ofInt_64 b (by omega)]
  exact wrap_u64_nat _ (Nat.lt_of_le_of_lt Nat.and_le_left ha)
theorem or_shift_pow (i a b : Nat) (hb : b < 2 ^ i) : a * 2 ^ i ||| b = a * 2 ^ i + b := by
  have := Nat.shiftLeft_add_eq_or_of_lt (i := i) (b := b) hb a
  rw [Nat.shiftLeft_eq] at this
  exact this.symm
theorem or_hex (a b : Nat) (x : Int) (hx : x = b) (ha : a * 16 < 18446744073709551616) (hb : b < 16) : bits .or .u64 (IntKind.u64.wrap ((a : Int) * 16)) x = ((a * 16 + b : Nat) : Int) := by
  have e : IntKind.u64.wrap ((a : Int) * 16) = ((a * 16 : Nat) : Int) := by
    rw [← wrap_u64_nat (a * 16) ha]; congr 1
  rw [e, hx, u64_or_nat _ _ ha (by omega), or_shift_pow 4 a b hb]
theorem or_quad (a b : Nat) (x : Int) (hx : x = b) (ha : a * 65536 < 18446744073709551616) (hb : b < 65536) : bits .or .u64 (IntKind.u64.wrap ((a : Int) * 65536)) x = ((a * 65536 + b : Nat) : Int) := by
  have e : IntKind.u64.wrap ((a : Int) * 65536) = ((a * 65536 : Nat) : Int) := by
    rw [← wrap_u64_nat (a * 65536) ha]; congr 1
  rw [e, hx, u64_or_nat _ _ ha (by omega), or_shift_pow 16 a b hb]
end Go.Pl
