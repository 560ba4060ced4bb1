/- options: the library's FormatUint at base 16, below 65536. -/
import Derived.Test.YtbegpgheikibjaaGreatDoorPrCnM
namespace Go.Proofs.Cn
open Go Go.RowKit Go.Pl Go.Maps Go.Proofs.Sa
set_option maxRecDepth 1000000 in
theorem tz64 (w : World) (hd : w.cell? ⟨9, 15, none⟩ = some (.int .u8 4)) : Calls Tryz.prog 204 #[.int .u64 16] w fun e w' => e = .returned (.int .i64 4) ∧ w' = w := by
  have b1 : bits BinOp.and IntKind.u64 16 (IntKind.u64.wrap (-16)) = 16 := by decide
  have b2 : IntKind.u64.wrap (16 * 285870213051353865) = 4573923408821661840 := by decide
  go_enter Tryz.func204, Tryz.ntmps204
  go_wp2
  go_ret
  exact ⟨by simp, rfl⟩
set_option maxRecDepth 1000000 in
theorem tz16 (w : World) (hd : w.cell? ⟨9, 15, none⟩ = some (.int .u8 4)) : Calls Tryz.prog 188 #[.int .u64 16] w fun e w' => e = .returned (.int .i64 4) ∧ w' = w := by
  go_enter Tryz.func188, Tryz.ntmps188
  go_wp2_with (go_at_call 204; refine (tz64 _ hd).mono ?_; rintro e w2 ⟨rfl, rfl⟩)
  go_ret
  exact ⟨by simp, rfl⟩
set_option maxRecDepth 1000000 in
theorem pow2_16 (w : World) : Calls Tryz.prog 187 #[.int .i64 16] w fun e w' => e = .returned (.bool true) ∧ w' = w := by
  have hb : bits BinOp.and IntKind.i64 16 15 = 0 := by decide
  go_enter Tryz.func187, Tryz.ntmps187
  go_wp2
  go_ret
  exact ⟨by simp, rfl⟩
theorem digit_36 : ∀ (x : Nat) (h : x < 36), (⟨#[48, 49, 50, 51, 52, 53, 54, 55, 56, 57, 97, 98, 99, 100, 101, 102, 103, 104, 105, 106, 107, 108, 109, 110, 111, 112, 113, 114, 115, 116, 117, 118, 119, 120, 121, 122]⟩ : ByteArray)[x]'h = hexC x := by decide
theorem digit36_at (x : Nat) (h : x < (⟨#[48, 49, 50, 51, 52, 53, 54, 55, 56, 57, 97, 98, 99, 100, 101, 102, 103, 104, 105, 106, 107, 108, 109, 110, 111, 112, 113, 114, 115, 116, 117, 118, 119, 120, 121, 122]⟩ : ByteArray).size) : (⟨#[48, 49, 50, 51, 52, 53, 54, 55, 56, 57, 97, 98, 99, 100, 101, 102, 103, 104, 105, 106, 107, 108, 109, 110, 111, 112, 113, 114, 115, 116, 117, 118, 119, 120, 121, 122]⟩ : ByteArray)[x]'h = hexC x := digit_36 x h
/-- Hexadecimal digits, no 0 ahead. -/
def fmtH : Nat → Nat → List UInt8 → List UInt8
  | 0, u, ds => hexC u :: ds
  | f + 1, u, ds => if 16 ≤ u then fmtH f (u / 16) (hexC (u % 16) :: ds) else hexC u :: ds
/-- The array that is written from its end. -/
structure Arr (w : World) (b i : Nat) (ds : List UInt8) (wx : World) : Prop where
  row : ∃ cs, wx.heap[b]? = some (.cells cs 201 (0, 0)) ∧ cs.size = 65 ∧ ∀ j x, ds[j]? = some x → cs[i + j]? = some (.int .u8 x.toNat)
  full : i + ds.length = 65
  below : Below w.heap.size w wx
  lo : w.heap.size ≤ b
theorem Arr.next {w : World} {b i : Nat} {ds : List UInt8} {wx : World} {x : UInt8} {c : Int} (h : Arr w b i ds wx) (h0 : 0 < i) (hc : c = x.toNat) : Arr w b (i - 1) (x :: ds) (wx.setCell ⟨b, i - 1, none⟩ (.int .u8 c)) := by
  obtain ⟨cs, h1, h2, h3⟩ := h.row
  have hf := h.full
  refine ⟨⟨cs.setIfInBounds (i - 1) (.int .u8 c), ?_, by simp [h2], fun j y hj => ?_⟩, by simp; omega, h.below.setCell (p := ⟨b, i - 1, none⟩) h.lo _, h.lo⟩
  · simp [World.setCell, Array.getElem?_modify, h1]
  · cases j with
    | zero =>
      have : x = y := by simpa using hj
      subst this
      subst hc
      rw [Nat.add_zero, Array.getElem?_setIfInBounds]
      simp [h2]; omega
    | succ j =>
      have h4 := h3 j y (by simpa using hj)
      rw [Array.getElem?_setIfInBounds, if_neg (by omega), show i - 1 + (j + 1) = i + j by omega]
      exact h4
theorem Arr.spot {w : World} {b i : Nat} {ds : List UInt8} {wx : World} (h : Arr w b i ds wx) (h0 : 0 < i) : (∃ v, wx.cell? ⟨b, i - 1, none⟩ = some v) ∧ wx.frozen? ⟨b, i - 1, none⟩ = false := by
  obtain ⟨cs, h1, h2, _⟩ := h.row
  have hf := h.full
  exact ⟨⟨cs[i - 1]'(by omega), by simp [World.cell?, h1, Array.getElem?_eq_getElem (show i - 1 < cs.size by omega)]⟩, by simp [World.frozen?, h1]⟩
theorem Arr.start (w : World) (cs : Array Value) (hcs : cs.size = 65) : Arr w w.heap.size 65 [] (w.alloc (.cells cs 201)) :=
  ⟨⟨cs, heap_alloc_new w _, hcs, fun j x h => by cases h⟩, rfl, (Below.refl _ _).alloc (Nat.le_refl _) _, Nat.le_refl _⟩
theorem Arr.text {w : World} {b i : Nat} {ds : List UInt8} {wx : World} (h : Arr w b i ds wx) (cap : Nat) : (convert 37 9 (.slice (some ⟨b, i, none⟩) ds.length cap)).run Tryz.prog wx = .ok (.string ⟨ds.toArray⟩) wx := by
  obtain ⟨cs, h1, h2, h3⟩ := h.row
  refine run_convert_bytes_back wx 37 9 5 ⟨b, i, none⟩ cap ds Tryz.underlying37 Tryz.underlying5 Tryz.underlying9 (fun j hj => ?_)
  have e : ((⟨b, i, none⟩ : Addr).add j) = ⟨b, i + j, none⟩ := by
    unfold Addr.add; by_cases h0 : j = 0 <;> simp [h0]
  rw [e]
  have := h3 j ds[j] (by simp [hj])
  simp only [World.cell?, h1]
  exact this
set_option maxRecDepth 1000000 in
set_option maxHeartbeats 6400000 in
theorem fb_any (u : Nat) (hu : u < 65536) (w : World) (hd : w.cell? ⟨9, 15, none⟩ = some (.int .u8 4)) : Calls Tryz.prog 166 #[.slice none 0 0, .int .u64 u, .int .i64 16, .bool false, .bool false] w fun e w' => ∃ v, e = .returned (.tuple #[v, .string ⟨(fmtH 3 u []).toArray⟩]) ∧ Below w.heap.size w w' := by
  have HD := Lib.hid hd
  clear hd
  have h9 : Hid (9 < w.heap.size) := Lib.hid (World.block_lt_of_cell? _ _ HD.out)
  have HS0 := Lib.hid (Arr.start w Tryz.zeroCells201 (by kernel_rfl))
  have hd1 : Hid ((w.alloc (.cells Tryz.zeroCells201 201)).cell? ⟨9, 15, none⟩ = some (.int .u8 4)) := Lib.hid ((((Below.refl _ w).alloc (Nat.le_refl _) (.cells Tryz.zeroCells201 201)).cell h9.out).trans HD.out)
  go_enter Tryz.func166, Tryz.ntmps166
  go_wp2_with (first
    | (go_at_call 187; refine (pow2_16 _).mono ?_; rintro e w2 ⟨rfl, hw2⟩; have hw2 := hw2.symm; subst hw2)
    | (go_at_call 188; refine (tz16 _ hd1.out).mono ?_; rintro e w2 ⟨rfl, hw2⟩; have hw2 := hw2.symm; subst hw2))
  generalize hb : w.heap.size = b at *
  generalize (w.alloc (.cells Tryz.zeroCells201 201)) = w1 at *
  clear hd1
  go_loopg [1, 13] 3 (fun g s1 s13 wx => ∃ (v j : Nat) (ds : List UInt8), Hid (j = 61 + g) ∧ j < 65 ∧ s1 = .int .u64 v ∧ s13 = .int .i64 ((j : Int) + 1) ∧ v < 16 ^ (g + 1) ∧ Hid (Arr w b (j + 1) ds wx ∧ fmtH g v ds = fmtH 3 u []))
  case atStart => exact ⟨u, 64, [], Lib.hid rfl, by omega, rfl, by first | rfl | simp, hu, Lib.hid ⟨HS0.out, rfl⟩⟩
  case round =>
    obtain ⟨v, j, ds, HJ, hj, rfl, rfl, hv, HR⟩ := hrel
    obtain ⟨⟨z, hz⟩, hf⟩ := HR.out.1.spot (Nat.succ_pos j)
    have k0 : wr.cell? ⟨b, j, none⟩ = some z := hz
    have k1 : wr.frozen? ⟨b, j, none⟩ = false := hf
    clear hz hf
    have hdig := digit36_at
    have hv64 : v < 65536 := Nat.lt_of_lt_of_le hv (Nat.pow_le_pow_right (by decide) (by have := HJ.out; omega) : 16 ^ (gk + 1) ≤ 16 ^ 4)
    by_cases h16 : 16 ≤ v
    · cases gk with
      | zero => simp at hv; omega
      | succ g =>
        have c0 : (16 : Int) ≤ (v : Int) := by omega
        have hand := and_15 v (by omega)
        have hx16 : v % 16 < 16 := Nat.mod_lt _ (by decide)
        have HN := Lib.hid (HR.out.1.next (x := hexC (v % 16)) (Nat.succ_pos j) rfl)
        have HE := Lib.hid (show fmtH g (v / 16) (hexC (v % 16) :: ds) = fmtH 3 u [] by rw [← HR.out.2]; conv => rhs; unfold fmtH
                                                                                        rw [if_pos h16])
        have HV2 : Hid (v / 16 < 16 ^ (g + 1)) := Lib.hid (by rw [Nat.pow_succ] at hv; omega)
        clear hv
        generalize v % 16 = x at *
        go_wp2
        go_roundg g
        case measure => omega
        case rel =>
          obtain ⟨j2, rfl⟩ : ∃ j2, j = j2 + 1 := ⟨j - 1, by have := HJ.out; omega⟩
          exact ⟨v / 16, j2, _, Lib.hid (by have := HJ.out; omega), by omega, by first | rfl | simp, by first | rfl | simp, HV2.out, Lib.hid ⟨HN.out, HE.out⟩⟩
    · have c0 : ¬ (16 : Int) ≤ (v : Int) := by omega
      have HN := Lib.hid (HR.out.1.next (x := hexC v) (Nat.succ_pos j) rfl)
      have HE := Lib.hid (show hexC v :: ds = fmtH 3 u [] by
        rw [← HR.out.2]
        cases gk with
        | zero => rfl
        | succ g => unfold fmtH; rw [if_neg h16])
      have hlen : (hexC v :: ds).length = 65 - j := by have := HN.out.full; omega
      have d0 := HN.out.text (65 - j)
      rw [hlen, HE.out] at d0
      have d1 : (convert 37 9 (.slice (some ⟨b, j, none⟩) (65 - j) (65 - j))).run Tryz.prog (wr.setCell ⟨b, j, none⟩ (.int .u8 (hexC v).toNat)) = .ok (.string ⟨(fmtH 3 u []).toArray⟩) (wr.setCell ⟨b, j, none⟩ (.int .u8 (hexC v).toNat)) := d0
      have hx16 : v < 36 := by omega
      have c1 : (j : Int) ≤ 65 := by omega
      clear d0 hlen hv
      go_wp2
      go_ret2
      exact ⟨⟨_, rfl⟩, hb ▸ HN.out.below⟩
set_option maxRecDepth 1000000 in
theorem ifu_any (u : Nat) (hu : u < 65536) (w : World) (hd : w.cell? ⟨9, 15, none⟩ = some (.int .u8 4)) : Calls Tryz.prog 170 #[.int .u64 u, .int .i64 16] w fun e w' => e = .returned (.string ⟨(fmtH 3 u []).toArray⟩) ∧ Below w.heap.size w w' := by
  have HF := Lib.hid (fb_any u hu w hd)
  clear hd
  go_enter Tryz.func170, Tryz.ntmps170
  go_wp2_with (go_at_call 166; refine HF.out.mono ?_; rintro e w2 ⟨v, rfl, hb2⟩)
  go_ret
  exact ⟨by simp, hb2⟩
set_option maxRecDepth 1000000 in
theorem fu_any (u : Nat) (hu : u < 65536) (w : World) (hd : w.cell? ⟨9, 15, none⟩ = some (.int .u8 4)) : Calls Tryz.prog 98 #[.int .u64 u, .int .i64 16] w fun e w' => e = .returned (.string ⟨(fmtH 3 u []).toArray⟩) ∧ Below w.heap.size w w' := by
  have HF := Lib.hid (ifu_any u hu w hd)
  clear hd
  go_enter Tryz.func98, Tryz.ntmps98
  go_wp2_with (go_at_call 170; refine HF.out.mono ?_; rintro e w2 ⟨rfl, hb2⟩)
  go_ret
  exact ⟨by simp, hb2⟩
end Go.Proofs.Cn
