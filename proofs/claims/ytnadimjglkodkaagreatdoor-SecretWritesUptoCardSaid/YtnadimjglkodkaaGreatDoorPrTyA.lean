/- secrets: a word as it is written, by either side. -/
import Derived.Test.YtnadimjglkodkaaGreatDoorPrTyShelf
import Derived.Test.YtnadimjglkodkaaGreatDoorPrTwG
import Derived.Test.YtnadimjglkodkaaGreatDoorPrSwP
namespace Go.Proofs.Sr
open Go Go.RowKit Go.Pl Go.Proofs.Sa
def strP (s : ByteArray) : ByteArray := if inQ s.data.toList then ⟨#[34]⟩ ++ s ++ ⟨#[34]⟩ else s
theorem strP_list (s : ByteArray) : (strP s).data.toList = wordP s.data.toList := by
  unfold strP wordP
  split
  · simp [ByteArray.data_append]
  · rfl
theorem any_two : ∀ l : List UInt8, decide (0 ≤ Lib.indexAny l [32, 35]) = (l.contains 32 || l.contains 35)
  | [] => rfl
  | x :: l => by
    have ih := any_two l
    have h := Lib.indexAny_ge [32, 35] l
    unfold Lib.indexAny
    by_cases h1 : x = 32
    · subst h1; rfl
    by_cases h2 : x = 35
    · subst h2; simp
    have e1 : (32 == x) = false := by simp; exact fun e => h1 e.symm
    have e2 : (35 == x) = false := by simp; exact fun e => h2 e.symm
    simp only [List.contains_cons, e1, e2, Bool.false_or]
    rw [← ih, if_neg (by simp [h1, h2])]
    by_cases hm : Lib.indexAny l [32, 35] = -1
    · rw [hm]; rfl
    · rw [if_neg (by simpa using hm)]
      congr 1
      apply propext
      constructor <;> intro <;> omega
theorem any_inQ (l : List UInt8) : (l.isEmpty || Lib.containsAny l [32, 35]) = inQ l := by
  unfold inQ Lib.containsAny
  rw [Bool.or_assoc, any_two]
set_option maxRecDepth 1000000 in
theorem word_any (s : ByteArray) (hs : s.size < 4294967281) (ha : ∀ (j : Nat) b, s.data.toList[j]? = some b → b.toNat < 128) (w : World) : Calls Tryz.prog 53 #[.string s] w fun e w' => e = .returned (.string (strP s)) ∧ Below w.heap.size w w' := by
  have HC := Lib.hid (fun w => Tryz.strings_ContainsAny_laid s ⟨#[32, 35]⟩ w hs (by decide) ha (fun j b h => by
    match j, h with
    | 0, h => cases h; decide
    | 1, h => cases h; decide
    | j + 2, h => simp at h))
  have HE := Lib.hid (any_inQ s.data.toList)
  by_cases h0 : s = ⟨#[]⟩
  · subst h0
    go_enter Tryz.func53, Tryz.ntmps53
    go_wp2
    go_ret
    exact ⟨rfl, Below.refl _ _⟩
  have h1 : s.data.toList.isEmpty = false := by
    rw [List.isEmpty_eq_false_iff]
    intro e
    apply h0
    obtain ⟨⟨l⟩⟩ := s
    simp at e
    subst e; rfl
  rw [h1, Bool.false_or] at HE
  have h2 : s.toList.isEmpty = false := by rw [Lib.toList_data]; exact h1
  clear h0 h1
  cases hb : Lib.containsAny s.data.toList (⟨#[32, 35]⟩ : ByteArray).data.toList with
  | true =>
    rw [hb] at HC
    have hr : strP s = ⟨#[34]⟩ ++ s ++ ⟨#[34]⟩ := if_pos (HE.out.symm.trans hb)
    have HR := Lib.hid hr
    clear hr hb
    go_enter Tryz.func53, Tryz.ntmps53
    go_wp2_with (go_at_call 80; go_loud (refine (HC.out _).mono ?_; rintro e w2 ⟨rfl, hb2⟩; have HB2 := Lib.hid hb2; clear hb2))
    go_ret
    exact ⟨by rw [HR.out]; rfl, HB2.out⟩
  | false =>
    rw [hb] at HC
    have hr : strP s = s := if_neg (by rw [← HE.out]; simp; exact hb)
    have HR := Lib.hid hr
    clear hr hb
    go_enter Tryz.func53, Tryz.ntmps53
    go_wp2_with (go_at_call 80; go_loud (refine (HC.out _).mono ?_; rintro e w2 ⟨rfl, hb2⟩; have HB2 := Lib.hid hb2; clear hb2))
    go_ret
    exact ⟨by rw [HR.out]; rfl, HB2.out⟩
/-- A name's bytes that are looked through. -/
theorem okC_blk {x : UInt8} (h : okC x) : blkS x = (x == 32) := by
  have h9 : (x == 9) = false := by simp; intro e; subst e; exact absurd h.1 (by decide)
  have h13 : (x == 13) = false := by simp; intro e; subst e; exact absurd h.1 (by decide)
  unfold blkS
  simp [h9, h13]
theorem inQ_hit {l : List UInt8} {x : UInt8} (hx : x ∈ l) (h : x = 32 ∨ x = 35) : inQ l = true := by
  unfold inQ
  rcases h with rfl | rfl
  · simp [hx]
  · simp [hx]
theorem inQ_none {l : List UInt8} (h : ∀ x ∈ l, x ≠ 32 ∧ x ≠ 35) : inQ l = l.isEmpty := by
  unfold inQ
  have h1 : l.contains 32 = false := by rw [← Bool.not_eq_true, List.contains_iff_mem]; exact fun hm => (h _ hm).1 rfl
  have h2 : l.contains 35 = false := by rw [← Bool.not_eq_true, List.contains_iff_mem]; exact fun hm => (h _ hm).2 rfl
  rw [h1, h2]; simp
set_option maxRecDepth 1000000 in
set_option maxHeartbeats 1600000 in
theorem rquoted_any (s : ByteArray) (hs : s.size ≤ 4294967280) (hok : ∀ x ∈ s.data.toList, okC x) (w : World) : Calls Tryz.prog 59 #[.string s] w fun e w' => e = .returned (.string (strP s)) ∧ w' = w := by
  have HSZ := Lib.hid (Lib.size_eq s)
  have HOk := Lib.hid hok
  clear hok
  go_enter Tryz.func59, Tryz.ntmps59
  go_wp2
  go_loopg [6] s.size (fun g s6 wx => ∃ i : Nat, i + g = s.size ∧ s6 = .int .i64 i ∧ wx = w ∧ Hid (∀ j x, j < i → s.data.toList[j]? = some x → x ≠ 32 ∧ x ≠ 35))
  case atStart => exact ⟨0, by omega, rfl, rfl, Lib.hid fun j x h => by omega⟩
  case round =>
    obtain ⟨i, hig, rfl, hwx, HN⟩ := hrel
    subst hwx
    by_cases hi : i < s.size
    case neg =>
      have c0 : ¬ (i : Int) < (s.size : Int) := by omega
      have HQ : Hid (inQ s.data.toList = s.data.toList.isEmpty) := Lib.hid (inQ_none fun x hx => by
        obtain ⟨j, hj⟩ := List.getElem?_of_mem hx
        have hl := (List.getElem?_eq_some_iff.1 hj).1
        exact HN.out j x (by rw [← HSZ.out] at hl; omega) hj)
      by_cases h0 : s = ⟨#[]⟩
      · subst h0
        go_wp2
        go_ret
        exact ⟨rfl, rfl⟩
      have h1 : s.data.toList.isEmpty = false := by
        rw [List.isEmpty_eq_false_iff]
        intro e
        apply h0
        obtain ⟨⟨l⟩⟩ := s
        simp at e
        subst e; rfl
      have h2 : s.toList.isEmpty = false := by rw [Lib.toList_data]; exact h1
      have HR : Hid (strP s = s) := Lib.hid (if_neg (by rw [HQ.out, h1]; decide))
      clear h0 h1
      go_wp2
      go_ret
      exact ⟨by rw [HR.out]; rfl, rfl⟩
    case pos =>
    have c0 : (i : Int) < (s.size : Int) := by omega
    have c8 : (0 : Int) ≤ (i : Int) := by omega
    have hx := Lib.data_getElem? s i hi
    have hm := List.mem_of_getElem? hx
    have hb := okC_blk (HOk.out _ hm)
    have HBl := Lib.hid (fun w => rblank_any s[i] w)
    have HX := Lib.hid hx
    by_cases h32 : s[i] = 32
    · have hr : strP s = ⟨#[34]⟩ ++ s ++ ⟨#[34]⟩ := if_pos (inQ_hit hm (.inl h32))
      have HR := Lib.hid hr
      have e32 : blkS s[i] = true := by rw [hb, h32]; rfl
      rw [e32] at HBl
      clear hr hb hx hm h32
      go_wp2_with (go_at_call 84; refine (HBl.out _).mono ?_; rintro e w5 ⟨rfl, hw5⟩; have hw5 := hw5.symm; subst hw5)
      go_ret
      exact ⟨by rw [HR.out]; rfl, rfl⟩
    have e32 : blkS s[i] = false := by rw [hb]; simp [h32]
    rw [e32] at HBl
    by_cases h35 : s[i] = 35
    · have hr : strP s = ⟨#[34]⟩ ++ s ++ ⟨#[34]⟩ := if_pos (inQ_hit hm (.inr h35))
      have HR := Lib.hid hr
      have c5 : (((s[i]).toNat : Int) == 35) = true := by rw [h35]; rfl
      have HB5 : Hid (∀ w, Calls Tryz.prog 84 #[.int .u8 35] w fun e w' => e = .returned (.bool false) ∧ w' = w) := Lib.hid (fun w => by
        have := HBl.out w
        rw [h35] at this
        exact this)
      have hk5 : (s[i]).toNat = 35 := by rw [h35]; rfl
      clear hr hb hx hm h35
      go_wp2_with (go_at_call 84; refine (HB5.out _).mono ?_; rintro e w5 ⟨rfl, hw5⟩; have hw5 := hw5.symm; subst hw5)
      go_ret
      exact ⟨by rw [HR.out]; rfl, rfl⟩
    have c5 : (((s[i]).toNat : Int) == 35) = false := by
      simp
      exact fun e => h35 (UInt8.toNat_inj.1 (by show _ = 35; omega))
    have HN2 : Hid (∀ j x, j < i + 1 → s.data.toList[j]? = some x → x ≠ 32 ∧ x ≠ 35) := Lib.hid fun j x hj hxj => by
      rcases Nat.lt_or_ge j i with h | h
      · exact HN.out j x h hxj
      · obtain rfl : i = j := by omega
        rw [hx] at hxj
        cases hxj
        exact ⟨h32, h35⟩
    clear hb hx hm
    cases gk with
    | zero => omega
    | succ g =>
    go_wp2_with (go_at_call 84; refine (HBl.out _).mono ?_; rintro e w5 ⟨rfl, hw5⟩; have hw5 := hw5.symm; subst hw5)
    go_roundg g
    case measure => omega
    case rel => exact ⟨i + 1, by omega, by simp, rfl, HN2⟩
end Go.Proofs.Sr
