/- secrets: strings.IndexAny for blanks, of any text. -/
import Derived.Laws.Runes
import Derived.WalkMore
import Derived.Laws.RangeAny
import Derived.Lib.DecodeN
import Derived.Test.YtnadimjglkodkaaGreatDoorPrTwA
namespace Go.Proofs.Sr
open Go Go.RowKit Go.Pl Go.Proofs.Sa
theorem wide_N (n b0 b1 b2 b3 : Nat) : ∀ j, 1 ≤ j → j < (Lib.decodeN n b0 b1 b2 b3).2 → j < n ∧ 128 ≤ [b0, b1, b2, b3].getD j 0 := by
  intro j h1 h2
  unfold Lib.decodeN at h2
  repeat' split at h2
  all_goals (try simp only at h2)
  all_goals (have hj : j = 1 ∨ j = 2 ∨ j = 3 := by omega)
  all_goals (rcases hj with rfl | rfl | rfl <;> simp <;> omega)
theorem get_of (s : ByteArray) (i : Nat) (h : i < s.size) : s.data.toList[i]? = some (s.get! i) := by
  rw [Lib.data_getElem? s i h]
  have := get_at s i h
  rw [Nat.add_zero] at this
  rw [this]
/-- Behind the first byte of a letter of many bytes there is none of one byte. -/
theorem decode_wide (s : ByteArray) (i : Nat) (j : Nat) (h1 : 1 ≤ j) (h2 : j < (Utf8.decode s i).2) : ∃ x, s.data.toList[i + j]? = some x ∧ 128 ≤ x.toNat := by
  rw [Lib.decode_at] at h2
  obtain ⟨h3, h4⟩ := wide_N _ _ _ _ _ j h1 h2
  have hj : j < 4 := by
    rcases Nat.lt_or_ge j 4 with h | h
    · exact h
    · simp [List.getD, List.getElem?_eq_none (show ([(s.get! i).toNat, (s.get! (i + 1)).toNat, (s.get! (i + 2)).toNat, (s.get! (i + 3)).toNat] : List Nat).length ≤ j from h)] at h4
  refine ⟨_, get_of s (i + j) (by omega), ?_⟩
  rcases (show j = 1 ∨ j = 2 ∨ j = 3 by omega) with rfl | rfl | rfl <;> simpa using h4
abbrev stopA : ByteArray := ⟨#[32, 9, 13, 35]⟩
theorem stop_lt : ∀ (x : UInt8), stopA.data.toList.contains x = true → x.toNat < 128 := by
  intro x h
  have h' : x ∈ [(32 : UInt8), 9, 13, 35] := List.contains_iff_mem.1 h
  simp only [List.mem_cons, List.not_mem_nil, or_false] at h'
  rcases h' with rfl | rfl | rfl | rfl <;> decide
theorem enc_forms (r : Int) (hv : Utf8.valid r = true) (h128 : 128 ≤ r) :
    (∃ a b, Utf8.encode r = ⟨#[a, b]⟩ ∧ 128 ≤ b.toNat) ∨ (∃ a b c, Utf8.encode r = ⟨#[a, b, c]⟩ ∧ 128 ≤ c.toNat) ∨ (∃ a b c d, Utf8.encode r = ⟨#[a, b, c, d]⟩ ∧ 128 ≤ d.toNat) := by
  have hc : ¬ r.toNat < 128 := by omega
  unfold Utf8.encode
  simp only [hv, if_true, hc, if_false]
  split
  · refine .inl ⟨_, _, rfl, ?_⟩
    simp; omega
  · split
    · refine .inr (.inl ⟨_, _, _, rfl, ?_⟩)
      simp; omega
    · refine .inr (.inr ⟨_, _, _, _, rfl, ?_⟩)
      simp; omega
set_option maxRecDepth 1000000 in
theorem valid_any (r : Int) (w : World) : Calls Tryz.prog 138 #[.int .i32 r] w fun e w' => e = .returned (.bool (Utf8.valid r)) ∧ w' = w := by
  rw [validRune_eq]
  unfold validRune
  by_cases h0 : 0 ≤ r
  · by_cases h1 : r < 55296
    · rw [decide_eq_true (.inl ⟨h0, h1⟩)]
      go_enter Tryz.func138, Tryz.ntmps138
      go_wp2
      go_ret
      exact ⟨rfl, rfl⟩
    · by_cases h2 : 57343 < r
      · by_cases h3 : r ≤ 1114111
        · rw [decide_eq_true (.inr ⟨h2, h3⟩)]
          go_enter Tryz.func138, Tryz.ntmps138
          go_wp2
          go_ret
          exact ⟨rfl, rfl⟩
        · rw [decide_eq_false (by omega)]
          go_enter Tryz.func138, Tryz.ntmps138
          go_wp2
          go_ret
          exact ⟨rfl, rfl⟩
      · rw [decide_eq_false (by omega)]
        go_enter Tryz.func138, Tryz.ntmps138
        go_wp2
        go_ret
        exact ⟨rfl, rfl⟩
  · have h2 : ¬ 57343 < r := by omega
    rw [decide_eq_false (by omega)]
    go_enter Tryz.func138, Tryz.ntmps138
    go_wp2
    go_ret
    exact ⟨rfl, rfl⟩
theorem byte_high (s : ByteArray) (hs : ∀ x ∈ s.data.toList, x.toNat < 128) (c : UInt8) (hc : 128 ≤ c.toNat) (w : World) : Calls Tryz.prog 113 #[.string s, .int .u8 c.toNat] w fun e w' => e = .returned (.int .i64 (-1)) ∧ w' = w := by
  refine (Tryz.strings_IndexByte s c.toNat w).mono ?_
  rintro e w' ⟨rfl, rfl⟩
  refine ⟨?_, rfl⟩
  rw [u8_back]
  have : Lib.indexByte s.data.toList c = -1 := by
    have hge := Lib.indexByte_ge s.data.toList c
    by_cases h : Lib.indexByte s.data.toList c = -1
    · exact h
    obtain ⟨o, ho⟩ := Int.eq_ofNat_of_zero_le (show 0 ≤ Lib.indexByte s.data.toList c by omega)
    have := hs c (List.mem_of_getElem? (Lib.indexByte_some ho).1)
    omega
  rw [this]
set_option maxRecDepth 1000000 in
set_option maxHeartbeats 1600000 in
/-- A letter of many bytes is none of these. -/
theorem rune_miss (r : Int) (h : 128 ≤ r) (w : World) : Calls Tryz.prog 118 #[.string stopA, .int .i32 r] w fun e w' => e = .returned (.int .i64 (-1)) ∧ Below w.heap.size w w' := by
  have h0 : (0 : Int) ≤ r := by omega
  have h1 : ¬ r < 128 := by omega
  by_cases he : r = 65533
  · subst he
    have c1 : ((65533 : Int) == 65533) = true := rfl
    go_enter Tryz.func118, Tryz.ntmps118
    go_wp2
    go_loopg [5, 6] 4 (fun g _ _ wx => ∃ i : Nat, i + g = 4 ∧ wx = w.iter stopA i)
    case atStart => exact ⟨0, by omega, rfl⟩
    case round =>
      obtain ⟨i, hig, rfl⟩ := hrel
      cases gk with
      | zero =>
        obtain rfl : i = 4 := by omega
        have hnx := run_next_end (P := Tryz.prog) w stopA 4
        go_wp2
        go_ret
        exact ⟨by simp, (Below.refl _ _).alloc (Nat.le_refl _) _⟩
      | succ g =>
        have hi : i < stopA.size := by show i < 4; omega
        have hl : (stopA[i]'hi).toNat < 128 := stop_lt _ (List.contains_iff_mem.2 (List.mem_of_getElem? (Lib.data_getElem? stopA i hi)))
        have hnx := fun ty => run_next_ascii (P := Tryz.prog) w stopA i ty hi hl
        have c2 : (((stopA[i]'hi).toNat : Int) == 65533) = false := by simp; omega
        go_wp2
        go_roundg g
        case measure => omega
        case rel => exact ⟨i + 1, by omega, rfl⟩
  have c1 : (r == 65533) = false := by simpa using he
  cases hv : Utf8.valid r with
  | false =>
    have HV := Lib.hid (fun w => valid_any r w)
    rw [hv] at HV
    go_enter Tryz.func118, Tryz.ntmps118
    go_wp2_with (go_at_call 138; refine (HV.out _).mono ?_; rintro e w2 ⟨rfl, rfl⟩)
    go_ret
    exact ⟨rfl, Below.refl _ _⟩
  | true =>
    have HV := Lib.hid (fun w => valid_any r w)
    rw [hv] at HV
    have HB := Lib.hid (fun (s : ByteArray) (hs : ∀ x ∈ s.data.toList, x.toNat < 128) (c : UInt8) (hc : 128 ≤ c.toNat) w => byte_high s hs c hc w)
    obtain ⟨f1, f2, f3⟩ := encode_facts r hv h
    have hcv : ∀ w, (convert 21 9 (.int .i32 r)).run Tryz.prog w = .ok (.string (Utf8.encode r)) w := fun w => run_convert_int_string w 21 9 .i32 r (by kernel_rfl) Tryz.underlying9
    have hS4 : stopA.size = 4 := rfl
    have hSl : ∀ x ∈ stopA.data.toList, x.toNat < 128 := fun x hx => stop_lt x (List.contains_iff_mem.2 hx)
    have hi0 : ∀ (j : Nat) (hj : j < stopA.size), (stopA[j]'hj).toNat < 128 := fun j hj => hSl _ (List.mem_of_getElem? (Lib.data_getElem? stopA j hj))
    generalize stopA = S at *
    generalize Utf8.encode r = R at *
    obtain ⟨k, hk⟩ : ∃ k, R.size = k + 1 := ⟨R.size - 1, by omega⟩
    have hkR : k < R.size := by omega
    have hkS : k < S.size := by omega
    have f4 : 128 ≤ (R[k]).toNat := by
      have q := f3 (by omega)
      simp only [show R.size - 1 = k by omega] at q
      exact q
    have f5 := hi0 k hkS
    have HXS := Lib.hid (fun (a e : Nat) => (fun x hx => hSl x (mem_extract hx) : ∀ x ∈ (S.extract a e).data.toList, x.toNat < 128))
    have c2 : (((S[k]).toNat : Int) != ((R[k]).toNat : Int)) = true := by simp; omega
    have c3 : IntKind.i64.wrap ((R.size : Int) - 1) = (k : Int) := by rw [hk, IntWalk.i64_left]; unfold wrap64; push_cast; omega
    have c3' : wrap64 ((R.size : Int) - 1) = (k : Int) := by rw [hk]; unfold wrap64; push_cast; omega
    have c4 : (k : Int) < (S.size : Int) := by omega
    have c5 : (k : Int) < (R.size : Int) := by omega
    have c6 : IntKind.i64.wrap ((k : Int) + 1) = (k : Int) + 1 := by rw [IntWalk.i64_left]; unfold wrap64; omega
    have c7 : (k : Int) + 1 ≤ (S.size : Int) := by omega
    have c8 : (0 : Int) ≤ (k : Int) := by omega
    have c9 : (0 : Int) ≤ (k : Int) + 1 := by omega
    have HF4 := Lib.hid f4
    clear f1 f2 f3 f4 f5 hSl hi0 hS4 hk h
    go_enter Tryz.func118, Tryz.ntmps118
    go_wp2_with (go_at_call 138; refine (HV.out _).mono ?_; rintro e w2 ⟨rfl, rfl⟩)
    go_step3
    go_wp2
    go_loopg [9, 10] 0 (fun g s9 s10 wx => s9 = .int .i64 k ∧ s10 = .int .i64 0 ∧ Hid (Below w2.heap.size w2 wx))
    case atStart => exact ⟨rfl, rfl, Lib.hid (Below.refl _ _)⟩
    case round =>
      obtain ⟨rfl, rfl, HW⟩ := hrel
      go_wp2
      go_step3
      go_wp2
      go_region_held3 (fun w' => Hid (Below w2.heap.size w2 w'))
        (first
          | exact HW
          | exact Lib.hid ⟨HW.out.os, HW.out.tape, HW.out.output, HW.out.size, HW.out.block⟩
          | assumption
          | fail)
        (fail)
      all_goals
        (have HZ := ‹Hid (Below w2.heap.size w2 _)›
         clear HW
         go_wp2
         go_region_held3 (fun w' => Hid (Below w2.heap.size w2 w'))
           (first
             | exact HZ
             | exact Lib.hid ⟨HZ.out.os, HZ.out.tape, HZ.out.output, HZ.out.size, HZ.out.block⟩
             | assumption
             | fail)
           (first
             | (go_at_call 113; refine (HB.out _ (HXS.out _ _) R[k] HF4.out _).mono ?_; rintro e w5 ⟨rfl, rfl⟩)
             | fail)
         clear HZ
         have HZ := ‹Hid (Below w2.heap.size w2 _)›
         go_wp2
         simp only [Exit.noGoto_ret, Exit.inBlock, Exit.then]
         go_ret
         exact ⟨rfl, HZ.out⟩)
end Go.Proofs.Sr
