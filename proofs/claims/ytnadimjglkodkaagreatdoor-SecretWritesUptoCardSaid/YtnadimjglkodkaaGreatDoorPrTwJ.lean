/- secrets: strings.IndexAny for blanks, of any text. -/
import Derived.Test.YtnadimjglkodkaaGreatDoorPrTwI
namespace Go.Proofs.Sr
open Go Go.RowKit Go.Pl Go.Proofs.Sa
theorem next_at {P : Program} (wx : World) (b : Nat) (s : ByteArray) (pos : Nat) (hb : wx.heap[b]? = some (.stringIter s pos)) (h : pos < s.size) (ty : TypeId) : (Instr.next (.pointer (some ⟨b, 0, none⟩)) true ty).run P wx =
    .ok (.tuple #[.bool true, .int .i64 pos, .int .i32 (Utf8.decode s pos).1]) { wx with heap := wx.heap.setIfInBounds b (.stringIter s (pos + (Utf8.decode s pos).2)) } := by
  simp only [Instr.next, getObj, setObj, Sem.run_bind, Sem.run, hb, Result.andThen, h, if_true]
  simp [goInt]
theorem next_end {P : Program} (wx : World) (b : Nat) (s : ByteArray) (pos : Nat) (hb : wx.heap[b]? = some (.stringIter s pos)) (h : ¬ pos < s.size) (ty : TypeId) : (Instr.next (.pointer (some ⟨b, 0, none⟩)) true ty).run P wx = .ok (.tuple #[.bool false]) wx := by
  simp [Instr.next, getObj, Sem.run, hb, h]
/-- Where a loop over a text stands. -/
structure Ist (w : World) (b : Nat) (s : ByteArray) (i : Nat) (wx : World) : Prop where
  at_ : wx.heap[b]? = some (.stringIter s i)
  below : Below w.heap.size w wx
  le : w.heap.size ≤ b
theorem Ist.kept {w : World} {b : Nat} {s : ByteArray} {i : Nat} {wx w' : World} (h : Ist w b s i wx) (hb : Below wx.heap.size wx w') : Ist w b s i w' :=
  ⟨(hb.block _ (Array.getElem?_eq_some_iff.1 h.at_).1).trans h.at_, below_step h.below hb, h.le⟩
theorem Ist.next {w : World} {b : Nat} {s : ByteArray} {i : Nat} {wx : World} (h : Ist w b s i wx) (j : Nat) : Ist w b s j { wx with heap := wx.heap.setIfInBounds b (.stringIter s j) } :=
  have hlt := (Array.getElem?_eq_some_iff.1 h.at_).1
  ⟨by simp [hlt], ⟨h.below.os, h.below.tape, h.below.output, by simpa using h.below.size, fun k hk => by
    have hbk : b ≠ k := by have := h.le; omega
    rw [← h.below.block k hk]
    simp [Array.getElem?_setIfInBounds_ne hbk]⟩, h.le⟩
theorem stop_contains : ∀ n, n < 256 → stopA.data.toList.contains (UInt8.ofNat n) = decide (0 ≤ Lib.indexByte stopA.data.toList (UInt8.ofNat n)) := by decide +kernel
theorem stop_contains_u (c : UInt8) : stopA.data.toList.contains c = decide (0 ≤ Lib.indexByte stopA.data.toList c) := by
  have h := stop_contains c.toNat c.toNat_lt
  rwa [UInt8.ofNat_toNat] at h
theorem no_wide {s : ByteArray} {i : Nat} (h : Lib.NoAny s.data.toList stopA.data.toList i) {x : UInt8} (hx : s.data.toList[i]? = some x) (hh : 128 ≤ x.toNat) : Lib.NoAny s.data.toList stopA.data.toList (i + (Utf8.decode s i).2) := fun j b hj hb => by
  rcases Nat.lt_or_ge j i with h1 | h1
  · exact h j b h1 hb
  · have hb128 : 128 ≤ b.toNat := by
      rcases Nat.eq_or_lt_of_le h1 with h2 | h2
      · subst h2; rw [hx] at hb; cases hb; exact hh
      · obtain ⟨y, hy, hy2⟩ := decode_wide s i (j - i) (by omega) (by omega)
        rw [show i + (j - i) = j by omega, hb] at hy
        cases hy; exact hy2
    cases hc : stopA.data.toList.contains b with
    | false => rfl
    | true => have := stop_lt b hc; omega
theorem wide_le (s : ByteArray) (i : Nat) (hi : i < s.size) : i + (Utf8.decode s i).2 ≤ s.size := by
  rcases Nat.lt_or_ge s.size (i + (Utf8.decode s i).2) with h | h
  · obtain ⟨y, hy, _⟩ := decode_wide s i (s.size - i) (by omega) (by omega)
    rw [show i + (s.size - i) = s.size by omega] at hy
    have := (List.getElem?_eq_some_iff.1 hy).1
    rw [← Lib.size_eq] at this
    omega
  · exact h
theorem should_any (n : Int) (h : ¬ 8 < n) (w : World) : Calls Tryz.prog 119 #[.int .i64 n] w fun e w' => e = .returned (.bool false) ∧ w' = w := by
  refine (Tryz.strings_shouldUseASCIISet n w).mono ?_
  rintro e w' ⟨rfl, rfl⟩
  exact ⟨by simp [h], rfl⟩
set_option maxRecDepth 1000000 in
set_option maxHeartbeats 1600000 in
theorem index_short (s : ByteArray) (h8 : s.size ≤ 8) (w : World) : Calls Tryz.prog 95 #[.string s, .string stopA] w fun e w' => e = .returned (.int .i64 (Lib.indexAny s.data.toList stopA.data.toList)) ∧ Below w.heap.size w w' := by
  have hemp : stopA.toList.isEmpty = false := by rw [Lib.toList_data]; rfl
  have hn1 : ((stopA.size : Int) == 1) = false := rfl
  have HSh := Lib.hid (fun w => should_any s.size (by omega) w)
  have HI := Lib.hid (fun (c : UInt8) (hc : c.toNat < 128) w => Tryz.strings_IndexRune_ascii stopA (c.toNat : Int) w (by omega) (by omega))
  have HM := Lib.hid (fun (r : Int) (hr : 128 ≤ r) w => rune_miss r hr w)
  have HI0 : Hid (Ist w w.heap.size s 0 (w.iter s 0)) := Lib.hid ⟨World.iter_heap w s 0, (Below.refl _ _).alloc (Nat.le_refl _) _, Nat.le_refl _⟩
  have HC := Lib.hid stop_contains_u
  have HNW := Lib.hid (fun (i : Nat) (h : Lib.NoAny s.data.toList stopA.data.toList i) (x : UInt8) hx hh => no_wide h (x := x) hx hh)
  generalize stopA = S at *
  go_enter Tryz.func95, Tryz.ntmps95
  go_wp2_with (go_at_call 119; refine (HSh.out _).mono ?_; rintro e w5 ⟨rfl, hw5⟩; have hw5 := hw5.symm; subst hw5)
  generalize hb : w.heap.size = b at *
  generalize w.iter s 0 = w1 at *
  go_loopg [9, 10] s.size (fun g _ _ wx => ∃ i : Nat, i + g = s.size ∧ Hid (Ist w b s i wx) ∧ Hid (Lib.NoAny s.data.toList S.data.toList i))
  case atStart => exact ⟨0, by omega, HI0, Lib.hid (Lib.NoAny.zero _ _)⟩
  case round =>
    obtain ⟨i, hig, HR, HN⟩ := hrel
    cases gk with
    | zero =>
      obtain rfl : i = s.size := by omega
      have hnx := next_end (P := Tryz.prog) wr b s s.size HR.out.at_ (Nat.lt_irrefl _)
      go_wp2
      go_ret
      exact ⟨by rw [Lib.indexAny_none (by rw [← Lib.size_eq]; exact HN.out)]; rfl, HR.out.below⟩
    | succ g =>
      have hi : i < s.size := by omega
      obtain ⟨x, hx⟩ : ∃ x : UInt8, s[i]'hi = x := ⟨_, rfl⟩
      have hxl : s.data.toList[i]? = some x := by rw [← hx]; exact Lib.data_getElem? s i hi
      have HX := Lib.hid hxl
      have HNX := Lib.hid (HR.out.next (i + (Utf8.decode s i).2))
      have hnx := next_at (P := Tryz.prog) wr b s i HR.out.at_ hi
      by_cases h128 : x.toNat < 128
      · have hd := decode_ascii s i hi (by rw [hx]; exact h128)
        rw [hx] at hd
        rw [hd] at hnx HNX
        have HIx := Lib.hid (HI.out x h128)
        cases hc : S.data.toList.contains x with
        | true =>
          have hk : (0 : Int) ≤ Lib.indexByte S.data.toList x := by
            have h := HC.out x
            rw [hc] at h
            simpa using h.symm
          go_wp2_with (go_at_call 118; refine (HIx.out _).mono ?_; rintro e w' ⟨rfl, rfl⟩)
          go_ret
          exact ⟨by rw [Lib.indexAny_hit HN.out HX.out hc]; rfl, HNX.out.below⟩
        | false =>
          have hk : ¬ (0 : Int) ≤ Lib.indexByte S.data.toList x := by
            have h := HC.out x
            rw [hc] at h
            simpa using h.symm
          have HN2 := Lib.hid (HN.out.succ HX.out hc)
          go_wp2_with (go_at_call 118; refine (HIx.out _).mono ?_; rintro e w' ⟨rfl, rfl⟩)
          go_roundg g
          case measure => omega
          case rel => exact ⟨i + 1, by omega, HNX, HN2⟩
      · have hh := decode_high s i hi (by rw [hx]; omega)
        have hle := wide_le s i hi
        have HN2 := Lib.hid (HNW.out i HN.out x HX.out (by omega))
        have HMx := Lib.hid (fun w => HM.out ((Utf8.decode s i).1 : Int) (by have := hh.1; omega) w)
        have hk : ¬ (0 : Int) ≤ -1 := by decide
        generalize (Utf8.decode s i).1 = r at *
        generalize (Utf8.decode s i).2 = k at *
        have h1 := hh.2
        clear hh hxl hx
        go_wp2_with (go_at_call 118; refine (HMx.out _).mono ?_; rintro e w' ⟨rfl, hb2⟩; have HK := Lib.hid (HNX.out.kept hb2); clear hb2)
        go_roundg (g + 1 - k)
        case measure => omega
        case rel => exact ⟨i + k, by omega, HK, HN2⟩
theorem zero256 : (Tryz.prog.info? 178).map (fun i => (i.zero, i.size)) = some (some (.agg (Array.replicate 256 (.bool false))), 256) := by kernel_rfl
/-- strings.IndexAny for blanks, of any text. -/
theorem index_stop (s : ByteArray) (hs : s.size < 4294967281) (w : World) : Calls Tryz.prog 95 #[.string s, .string stopA] w fun e w' => e = .returned (.int .i64 (Lib.indexAny s.data.toList stopA.data.toList)) ∧ Below w.heap.size w w' := by
  rcases Nat.lt_or_ge 8 s.size with h8 | h8
  · refine (Tryz.strings_IndexAny_long (fun w => (zero_of_info zero256).1 w) s stopA w (by decide) h8 hs (by decide) ?_).mono ?_
    · intro j b hb
      exact stop_lt b (List.contains_iff_mem.2 (List.mem_of_getElem? hb))
    · rintro e w' ⟨rfl, rfl⟩
      exact ⟨rfl, ((Below.refl _ _).alloc (Nat.le_refl _) _).alloc (by simp) _⟩
  · exact index_short s h8 w
end Go.Proofs.Sr
