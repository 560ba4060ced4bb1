/- options: blank, either side. -/
import Derived.Test.YtbegpgheikibjaaGreatDoorProg
import Derived.Test.YtbegpgheikibjaaGreatDoorPrCwP
import Derived.Test.YtbegpgheikibjaaGreatDoorPrSaDef
namespace Go.Proofs.Cw
open Go Go.RowKit
theorem u8_ne {c : UInt8} {k : Nat} (hk : k < 256) (h : c ≠ UInt8.ofNat k) : c.toNat ≠ k := fun e => h (UInt8.toNat_inj.1 (by rw [e]; simp; omega))
theorem blkW_of (c : UInt8) : blkW c = (decide (c.toNat = 32) || decide (c.toNat = 9) || decide (c.toNat = 13)) := by
  have h : ∀ k : Nat, k < 256 → (c == UInt8.ofNat k) = decide (c.toNat = k) := fun k hk => by
    by_cases he : c.toNat = k
    · have : c = UInt8.ofNat k := UInt8.toNat_inj.1 (by rw [he]; simp; omega)
      rw [this]; simp; omega
    · have : c ≠ UInt8.ofNat k := fun e => he (by rw [e]; simp; omega)
      simp [this, he]
  unfold blkW
  rw [← h 32 (by decide), ← h 9 (by decide), ← h 13 (by decide)]
  rfl
set_option maxRecDepth 1000000 in
theorem blank_any (c : UInt8) (w : World) : Calls Tryz.prog 42 #[.int .u8 c.toNat] w fun e w' => e = .returned (.bool (blkW c)) ∧ w' = w := by
  have hb := blkW_of c
  by_cases h1 : c.toNat = 32
  · have e1 : (((c.toNat : Nat) : Int) == 32) = true := by simp; omega
    have hr : blkW c = true := by rw [hb]; simp [h1]
    go_enter Tryz.func42, Tryz.ntmps42
    go_wp2
    go_ret
    exact ⟨by simp [hr], rfl⟩
  have e1 : (((c.toNat : Nat) : Int) == 32) = false := by simp; omega
  by_cases h2 : c.toNat = 9
  · have e2 : (((c.toNat : Nat) : Int) == 9) = true := by simp; omega
    have hr : blkW c = true := by rw [hb]; simp [h2]
    go_enter Tryz.func42, Tryz.ntmps42
    go_wp2
    go_ret
    exact ⟨by simp [hr], rfl⟩
  have e2 : (((c.toNat : Nat) : Int) == 9) = false := by simp; omega
  by_cases h3 : c.toNat = 13
  · have e3 : (((c.toNat : Nat) : Int) == 13) = true := by simp; omega
    have hr : blkW c = true := by rw [hb]; simp [h3]
    go_enter Tryz.func42, Tryz.ntmps42
    go_wp2
    go_ret
    exact ⟨by simp [hr], rfl⟩
  have e3 : (((c.toNat : Nat) : Int) == 13) = false := by simp; omega
  have hr : blkW c = false := by rw [hb]; simp [h1, h2, h3]
  go_enter Tryz.func42, Tryz.ntmps42
  go_wp2
  go_ret
  exact ⟨by simp [hr], rfl⟩
set_option maxRecDepth 1000000 in
theorem rblank_any (c : UInt8) (w : World) : Calls Tryz.prog 44 #[.int .u8 c.toNat] w fun e w' => e = .returned (.bool (blkW c)) ∧ w' = w := by
  have hb := blkW_of c
  by_cases h1 : c.toNat = 32
  · have e1 : (((c.toNat : Nat) : Int) == 32) = true := by simp; omega
    have hr : blkW c = true := by rw [hb]; simp [h1]
    go_enter Tryz.func44, Tryz.ntmps44
    go_wp2
    go_ret
    exact ⟨by simp [hr], rfl⟩
  have e1 : (((c.toNat : Nat) : Int) == 32) = false := by simp; omega
  by_cases h2 : c.toNat = 9
  · have e2 : (((c.toNat : Nat) : Int) == 9) = true := by simp; omega
    have hr : blkW c = true := by rw [hb]; simp [h2]
    go_enter Tryz.func44, Tryz.ntmps44
    go_wp2
    go_ret
    exact ⟨by simp [hr], rfl⟩
  have e2 : (((c.toNat : Nat) : Int) == 9) = false := by simp; omega
  by_cases h3 : c.toNat = 13
  · have e3 : (((c.toNat : Nat) : Int) == 13) = true := by simp; omega
    have hr : blkW c = true := by rw [hb]; simp [h3]
    go_enter Tryz.func44, Tryz.ntmps44
    go_wp2
    go_ret
    exact ⟨by simp [hr], rfl⟩
  have e3 : (((c.toNat : Nat) : Int) == 13) = false := by simp; omega
  have hr : blkW c = false := by rw [hb]; simp [h1, h2, h3]
  go_enter Tryz.func44, Tryz.ntmps44
  go_wp2
  go_ret
  exact ⟨by simp [hr], rfl⟩
end Go.Proofs.Cw
