/- options: an address as text, plain. -/
import Derived.Test.YtbegpgheikibjaaGreatDoorPrPlAddr
import Derived.Test.YtbegpgheikibjaaGreatDoorPrBits
import Derived.Test.YtbegpgheikibjaaGreatDoorPrSaDef
namespace Go.Proofs.Cn
open Go Go.RowKit Go.Pl
/-- The numbers of an address, from the left. -/
def numsA (a : Nat) : List Nat := [a / 16777216 % 256, a / 65536 % 256, a / 256 % 256, a % 256]
def strsA (a : Nat) : List ByteArray := (numsA a).map fun k => ⟨(dd k).toArray⟩
def textR (a : Int) : ByteArray := if a < 0 ∨ 4294967295 < a then ⟨#[]⟩ else ⟨(textA (a.toNat / 16777216 % 256) (a.toNat / 65536 % 256) (a.toNat / 256 % 256) (a.toNat % 256)).toArray⟩
def numA (n k : Nat) : Nat := n / 2 ^ (24 - 8 * k) % 256
theorem numA_lt (n k : Nat) : numA n k < 256 := Nat.mod_lt _ (by decide)
theorem num_bits (n k : Nat) (hn : n ≤ 4294967295) : bits BinOp.and IntKind.i64 ((n : Int) / 2 ^ (24 - 8 * k)) 255 = ((numA n k : Nat) : Int) := by
  have h1 : ((n : Int) / 2 ^ (24 - 8 * k)) = ((n / 2 ^ (24 - 8 * k) : Nat) : Int) := by simp
  have h2 : n / 2 ^ (24 - 8 * k) ≤ n := Nat.div_le_self _ _
  have h3 : (255 : Int) = ((255 : Nat) : Int) := rfl
  rw [h1, h3, i64_and_nat _ _ (by omega) (by decide)]
  congr 1
  exact Nat.and_two_pow_sub_one_eq_mod _ 8
theorem strs_at (n k : Nat) (hk : k < 4) : (strsA n)[k]? = some ⟨(dd (numA n k)).toArray⟩ := by
  match k, hk with
  | 0, _ => rfl
  | 1, _ => rfl
  | 2, _ => rfl
  | 3, _ => simp [strsA, numsA, numA]
theorem itoa_num (n k : Nat) : Lib.itoa ((numA n k : Nat) : Int) = dd (numA n k) := by
  unfold Lib.itoa
  rw [if_neg (by omega), Int.toNat_natCast, decDigits_dd (numA_lt n k)]
/-- The first k numbers, with dots between. -/
def showA (n : Nat) : Nat → List UInt8
  | 0 => []
  | 1 => dd (numA n 0)
  | 2 => dd (numA n 0) ++ 46 :: dd (numA n 1)
  | 3 => dd (numA n 0) ++ 46 :: (dd (numA n 1) ++ 46 :: dd (numA n 2))
  | _ => dd (numA n 0) ++ 46 :: (dd (numA n 1) ++ 46 :: (dd (numA n 2) ++ 46 :: dd (numA n 3)))
theorem bytes_app (a b : List UInt8) : ((⟨a.toArray⟩ : ByteArray) ++ (⟨b.toArray⟩ : ByteArray)) = ⟨(a ++ b).toArray⟩ := by
  apply ByteArray.ext
  simp [ByteArray.data_append]
theorem dd_len (k : Nat) : (dd k).length ≤ 3 := by unfold dd; split <;> (try split) <;> simp
theorem show_len (n k : Nat) : (showA n k).length ≤ 15 := by
  have h0 := dd_len (numA n 0); have h1 := dd_len (numA n 1); have h2 := dd_len (numA n 2); have h3 := dd_len (numA n 3)
  unfold showA
  split <;> simp <;> omega
theorem show_next (n k : Nat) (h0 : 0 < k) (h : k < 4) : showA n k ++ ([46] ++ dd (numA n k)) = showA n (k + 1) := by
  match k, h0, h with
  | 1, _, _ => simp [showA]
  | 2, _, _ => simp [showA]
  | 3, _, _ => simp [showA]
theorem show_all (n : Nat) (_hn : n ≤ 4294967295) : showA n 4 = textA (n / 16777216 % 256) (n / 65536 % 256) (n / 256 % 256) (n % 256) := by
  simp [showA, textA, numA]
def textE (a : Int) : Int := if a < 0 ∨ 4294967295 < a then 150 else 0
end Go.Proofs.Cn
