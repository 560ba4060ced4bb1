/- options: the program's hex. -/
import Derived.Test.YtbegpgheikibjaaGreatDoorPrCnI
namespace Go.Proofs.Cn
open Go Go.RowKit Go.Pl Go.Maps Go.Proofs.Sa
set_option maxRecDepth 1000000 in
theorem pu_any (s : ByteArray) (k : Nat) (h1 : 0 < s.size) (h4 : s.size ≤ 4) (hk : hexV 0 s.data.toList = some k) (w : World) :
    Calls Tryz.prog 97 #[.string s, .int .i64 16, .int .i64 64] w fun e w' => e = .returned (.tuple #[.int .u64 k, .nilIface]) ∧ Below w.heap.size w w' := by
  have HP := Lib.hid (ipu_any s k h1 h4 hk w)
  have HB := Lib.hid (Lib.bytesWorld_below w 5 s)
  clear hk
  go_enter Tryz.func97, Tryz.ntmps97
  go_wp2_with (go_at_call 168; refine HP.out.mono ?_; rintro e w2 ⟨rfl, rfl⟩)
  go_ret2
  exact ⟨by simp, HB.out⟩
theorem hexV_none_at {l : List UInt8} : ∀ (i : Nat) (n : Nat) (c : UInt8), l[i]? = some c → hexD c = none → hexV n l = none := by
  induction l with
  | nil => intro i n c h; cases h
  | cons x l ih =>
    intro i n c h hc
    cases i with
    | zero =>
      have : x = c := by simpa using h
      subst this
      exact hexV_bad hc
    | succ i =>
      unfold hexV
      cases hexD x with
      | none => rfl
      | some d => exact ih i _ c (by simpa using h) hc
theorem hexV_all : ∀ (l : List UInt8) (n : Nat), (∀ c ∈ l, hexD c ≠ none) → ∃ k, hexV n l = some k
  | [], n, _ => ⟨n, rfl⟩
  | c :: l, n, h => by
    cases hc : hexD c with
    | none => exact absurd hc (h c (List.mem_cons_self ..))
    | some d =>
      obtain ⟨k, hk⟩ := hexV_all l (n * 16 + d) (fun x hx => h x (List.mem_cons_of_mem _ hx))
      exact ⟨k, by rw [hexV_step hc]; exact hk⟩
theorem hexL_bad {s : ByteArray} {i : Nat} (hi : i < s.size) (hc : hexD s[i] = none) : hexL s.data.toList = none := by
  unfold hexL; split
  · rfl
  · exact hexV_none_at i 0 _ (Lib.data_getElem? s i hi) hc
set_option maxRecDepth 1000000 in
set_option maxHeartbeats 3200000 in
theorem hex_any (s : ByteArray) (hs : s.size ≤ 1048576) (w : World) : Calls Tryz.prog 53 #[.string s, .int .i64 4] w (HRet s.data.toList w) := by
  have HSZ := Lib.hid (Lib.size_eq s)
  go_enter Tryz.func53, Tryz.ntmps53
  go_wp2
  go_loopg [12] s.size (fun g s12 wx => ∃ i : Nat, i + g = s.size ∧ s12 = .int .i64 i ∧ wx = w ∧ Hid (∀ j c, j < i → s.data.toList[j]? = some c → hexD c ≠ none))
  case atStart => exact ⟨0, by omega, rfl, rfl, Lib.hid (fun j c h => absurd h (Nat.not_lt_zero _))⟩
  case round =>
    obtain ⟨i, hig, rfl, hwx, HR⟩ := hrel
    have hwx := hwx.symm
    subst hwx
    cases gk with
    | zero =>
      have c0 : ¬ (i : Int) < (s.size : Int) := by omega
      by_cases h0 : s.toList = []
      · have hl : s.data.toList = [] := by rw [Lib.toList_data] at h0; exact h0
        have HF := Lib.hid (show hexL s.data.toList = none by unfold hexL; rw [if_pos (.inl hl)])
        clear hl
        go_wp2
        go_ret2
        exact HRet.bad HF.out (Below.refl _ _)
      have hne : s.data.toList ≠ [] := fun e => h0 (by rw [Lib.toList_data]; exact e)
      have ht4 : s.toList.isEmpty = false := by simpa using h0
      by_cases h4 : 4 < s.size
      · have c1 : (4 : Int) < (s.size : Int) := by omega
        have HF := Lib.hid (show hexL s.data.toList = none by unfold hexL; rw [if_pos (.inr (by have := HSZ.out; omega))])
        clear hne
        go_wp2
        go_ret2
        exact HRet.bad HF.out (Below.refl _ _)
      · have c1 : ¬ (4 : Int) < (s.size : Int) := by omega
        obtain ⟨k, hk⟩ := hexV_all s.data.toList 0 (fun c hc => by
          obtain ⟨j, hj⟩ := List.getElem?_of_mem hc
          have hjl := (List.getElem?_eq_some_iff.1 hj).1
          exact HR.out j c (by have := HSZ.out; omega) hj)
        have HF := Lib.hid (show hexL s.data.toList = some k by
          unfold hexL
          rw [if_neg (fun hh => by
            have := HSZ.out
            rcases hh with hh | hh
            · exact hne hh
            · omega)]; exact hk)
        have HP := Lib.hid (pu_any s k (by rw [HSZ.out]; exact List.length_pos_iff.2 hne) (by omega) hk w)
        clear hne hk
        go_wp2_with (go_at_call 97; refine HP.out.mono ?_; rintro e w2 ⟨rfl, hb2⟩)
        go_ret2
        exact HRet.good HF.out hb2
    | succ g =>
      have hi : i < s.size := by omega
      have c0 : (i : Int) < (s.size : Int) := by omega
      have HN : Hid (hexD s[i] ≠ none → ∀ j c, j < i + 1 → s.data.toList[j]? = some c → hexD c ≠ none) := Lib.hid fun h j c hj hc => by
        by_cases he : j = i
        · subst he
          rw [Lib.data_getElem? s j hi] at hc
          injection hc with hc
          rw [← hc]; exact h
        · exact HR.out j c (by omega) hc
      have HBad := Lib.hid (fun h => hexL_bad hi h)
      by_cases k1 : 48 ≤ (s[i]).toNat ∧ (s[i]).toNat ≤ 57
      · have HN2 := Lib.hid (HN.out (by rw [hexD_dec k1]; simp))
        have c3 : (48 : Int) ≤ ((s[i]).toNat : Int) := by omega
        have c4 : ((s[i]).toNat : Int) ≤ 57 := by omega
        clear k1
        go_wp2
        go_roundg g
        case measure => omega
        case rel => exact ⟨i + 1, by omega, by first | (simp; done) | (simp; omega), rfl, HN2⟩
      by_cases k2 : 97 ≤ (s[i]).toNat ∧ (s[i]).toNat ≤ 102
      · have HN2 := Lib.hid (HN.out (by rw [hexD_low k2]; simp))
        have c3 : (48 : Int) ≤ ((s[i]).toNat : Int) := by omega
        have c4 : ¬ ((s[i]).toNat : Int) ≤ 57 := by omega
        have c5 : (97 : Int) ≤ ((s[i]).toNat : Int) := by omega
        have c6 : ((s[i]).toNat : Int) ≤ 102 := by omega
        clear k2
        go_wp2
        go_roundg g
        case measure => omega
        case rel => exact ⟨i + 1, by omega, by first | (simp; done) | (simp; omega), rfl, HN2⟩
      by_cases k3 : 65 ≤ (s[i]).toNat ∧ (s[i]).toNat ≤ 70
      · have HN2 := Lib.hid (HN.out (by rw [hexD_up k3]; simp))
        have c3 : (48 : Int) ≤ ((s[i]).toNat : Int) := by omega
        have c4 : ¬ ((s[i]).toNat : Int) ≤ 57 := by omega
        have c5 : ¬ (97 : Int) ≤ ((s[i]).toNat : Int) := by omega
        have c7 : (65 : Int) ≤ ((s[i]).toNat : Int) := by omega
        have c8 : ((s[i]).toNat : Int) ≤ 70 := by omega
        clear k3
        go_wp2
        go_roundg g
        case measure => omega
        case rel => exact ⟨i + 1, by omega, by first | (simp; done) | (simp; omega), rfl, HN2⟩
      have HF := Lib.hid (HBad.out (hexD_no k1 k2 k3))
      rcases (show (s[i]).toNat < 48 ∨ (57 < (s[i]).toNat ∧ (s[i]).toNat < 65) ∨ (70 < (s[i]).toNat ∧ (s[i]).toNat < 97) ∨ 102 < (s[i]).toNat by omega) with k4 | ⟨k4, k5⟩ | ⟨k4, k5⟩ | k4
      · have c3 : ¬ (48 : Int) ≤ ((s[i]).toNat : Int) := by omega
        have c5 : ¬ (97 : Int) ≤ ((s[i]).toNat : Int) := by omega
        have c7 : ¬ (65 : Int) ≤ ((s[i]).toNat : Int) := by omega
        clear k1 k2 k3 k4
        go_wp2
        go_ret2
        exact HRet.bad HF.out (Below.refl _ _)
      · have c3 : (48 : Int) ≤ ((s[i]).toNat : Int) := by omega
        have c4 : ¬ ((s[i]).toNat : Int) ≤ 57 := by omega
        have c5 : ¬ (97 : Int) ≤ ((s[i]).toNat : Int) := by omega
        have c7 : ¬ (65 : Int) ≤ ((s[i]).toNat : Int) := by omega
        clear k1 k2 k3 k4 k5
        go_wp2
        go_ret2
        exact HRet.bad HF.out (Below.refl _ _)
      · have c3 : (48 : Int) ≤ ((s[i]).toNat : Int) := by omega
        have c4 : ¬ ((s[i]).toNat : Int) ≤ 57 := by omega
        have c5 : ¬ (97 : Int) ≤ ((s[i]).toNat : Int) := by omega
        have c7 : (65 : Int) ≤ ((s[i]).toNat : Int) := by omega
        have c8 : ¬ ((s[i]).toNat : Int) ≤ 70 := by omega
        clear k1 k2 k3 k4 k5
        go_wp2
        go_ret2
        exact HRet.bad HF.out (Below.refl _ _)
      · have c3 : (48 : Int) ≤ ((s[i]).toNat : Int) := by omega
        have c4 : ¬ ((s[i]).toNat : Int) ≤ 57 := by omega
        have c5 : (97 : Int) ≤ ((s[i]).toNat : Int) := by omega
        have c6 : ¬ ((s[i]).toNat : Int) ≤ 102 := by omega
        have c7 : (65 : Int) ≤ ((s[i]).toNat : Int) := by omega
        have c8 : ¬ ((s[i]).toNat : Int) ≤ 70 := by omega
        clear k1 k2 k3 k4
        go_wp2
        go_ret2
        exact HRet.bad HF.out (Below.refl _ _)
end Go.Proofs.Cn
