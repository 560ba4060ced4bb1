/- options: the law ConfWords walked. -/
import Derived.Test.YtbegpgheikibjaaGreatDoorPrCwF
import Derived.Test.YtbegpgheikibjaaGreatDoorPrCwH
namespace Go.Proofs.Cw
open Go Go.RowKit Go.Proofs.Sa Go.Pl
/-- A row of words that can be read. -/
structure WRow (w : World) (ao : Option Addr) (n : Nat) (ws : List (List UInt8)) : Prop where
  len : ws.length = n
  top : n ≤ 9223372036854775807
  row : 0 < n → ∃ b, ao = some ⟨b, 0, none⟩ ∧ b < w.heap.size ∧ ∀ j x, ws[j]? = some x → w.cell? ⟨b, j, none⟩ = some (strV x)
theorem WRow.kept {w w' : World} {ao : Option Addr} {n : Nat} {ws : List (List UInt8)} (h : WRow w ao n ws) (hb : Below w.heap.size w w') : WRow w' ao n ws :=
  ⟨h.len, h.top, fun h0 => by
    obtain ⟨b, h1, h2, h3⟩ := h.row h0
    exact ⟨b, h1, Nat.lt_of_lt_of_le h2 hb.size, fun j x hx => (hb.cell h2).trans (h3 j x hx)⟩⟩
theorem wrow_of {w : World} {B : Nat} {v : Value} {ws : List (List UInt8)} (h : w.ownsRow B 9 1 v ws.length (wordsV ws)) : ∃ ao cap, v = .slice ao ws.length cap ∧ WRow w ao ws.length ws := by
  rcases h.2 with ⟨rfl, h0⟩ | ⟨g, cap, cur, rfl, _, hg, hn, hm, _, htk⟩
  · exact ⟨none, 0, by rw [h0], rfl, by omega, fun h => by omega⟩
  · refine ⟨_, cap, rfl, rfl, by unfold maxLen at hm; omega, fun _ => ⟨g, rfl, (Array.getElem?_eq_some_iff.1 hg).1, fun j x hx => ?_⟩⟩
    have hj : j < ws.length := (List.getElem?_eq_some_iff.1 hx).1
    have h2 : cur.toList[j]? = some (strV x) := by
      have : (cur.toList.take (ws.length * 1))[j]? = cur.toList[j]? := List.getElem?_take_of_lt (by omega)
      rw [← this, htk]
      simp [wordsV, hx]
    simp only [World.cell?, hg]
    rw [← Array.getElem?_toList]; exact h2
/-- What the law knows behind its calls. -/
structure Lst (w : World) (ao bo : Option Addr) (ws : List (List UInt8)) (wx : World) : Prop where
  below : Below w.heap.size w wx
  l : WRow wx ao ws.length ws
  m : WRow wx bo ws.length ws
theorem Lst.kept {w : World} {ao bo : Option Addr} {ws : List (List UInt8)} {wx w' : World} (h : Lst w ao bo ws wx) (hb : Below wx.heap.size wx w') : Lst w ao bo ws w' := ⟨below_step h.below hb, h.l.kept hb, h.m.kept hb⟩
set_option maxRecDepth 1000000 in
set_option maxHeartbeats 6400000 in
theorem words_law (s t : ByteArray) (ht : t.size ≤ 1048576) (w : World) (hc : Cst w)
    (hA : ∀ w', Below w.heap.size w w' → Calls Tryz.prog 16 #[] w' fun e w2 => e = .returned (.bool true) ∧ Below w'.heap.size w' w2) :
    Calls Tryz.prog 6 #[.string s, .string t] w fun e w' => e = .returned (.bool true) ∧ Below w.heap.size w w' := by
  have HC := Lib.hid hc
  have HA := Lib.hid hA
  clear hc hA
  obtain ⟨ws, hws⟩ : ∃ ws, (wordsR s.data.toList).getD [] = ws := ⟨_, rfl⟩
  obtain ⟨k, hk⟩ : ∃ k : Int, (if (wordsR s.data.toList).isSome then 0 else 50 : Int) = k := ⟨_, rfl⟩
  have HW := Lib.hid hws
  have HK := Lib.hid hk
  clear hws hk
  have H1 : Hid (Calls Tryz.prog 17 #[.string s] w fun e w' => ∃ ao cap, e = .returned (.tuple #[.slice ao ws.length cap, .int .i64 k]) ∧ WRow w' ao ws.length ws ∧ Below w.heap.size w w') := Lib.hid (by
    refine (words_any s w).mono ?_
    rintro e w' ⟨v, k', rfl, ho, hk', hb⟩
    rw [HW.out] at ho
    obtain ⟨ao, cap, rfl, h⟩ := wrow_of ho
    exact ⟨ao, cap, by rw [hk', HK.out], h, hb⟩)
  have H2 : Hid (∀ w1, Calls Tryz.prog 18 #[.string s] w1 fun e w' => ∃ ao cap, e = .returned (.tuple #[.slice ao ws.length cap, .int .i64 k]) ∧ WRow w' ao ws.length ws ∧ Below w1.heap.size w1 w') := Lib.hid (fun w1 => by
    refine (rwords_any s w1).mono ?_
    rintro e w' ⟨v, k', rfl, ho, hk', hb⟩
    rw [HW.out] at ho
    obtain ⟨ao, cap, rfl, h⟩ := wrow_of ho
    exact ⟨ao, cap, by rw [hk', HK.out], h, hb⟩)
  obtain ⟨q, hq⟩ : ∃ q : ByteArray, q.data.toList = (quoteR t.data.toList).1 := ⟨⟨(quoteR t.data.toList).1.toArray⟩, rfl⟩
  obtain ⟨kq, hkq⟩ : ∃ k : Int, (quoteR t.data.toList).2 = k := ⟨_, rfl⟩
  have HQ := Lib.hid hq
  have HKQ := Lib.hid hkq
  clear hq hkq
  have H3 : Hid (∀ w1, Below w.heap.size w w1 → Calls Tryz.prog 19 #[.string t] w1 fun e w' => e = .returned (.tuple #[.string q, .int .i64 kq]) ∧ Below w1.heap.size w1 w') := Lib.hid (fun w1 hb1 => by
    refine (quote_any t ht w1 (HC.out.kept hb1)).mono ?_
    rintro e w' ⟨a, k', rfl, ha, hk', hb⟩
    exact ⟨by rw [hk', HKQ.out, bytes_ext (ha.trans HQ.out.symm)], hb⟩)
  have H4 : Hid (∀ w1, Calls Tryz.prog 20 #[.string t] w1 fun e w' => e = .returned (.tuple #[.string q, .int .i64 kq]) ∧ Below w1.heap.size w1 w') := Lib.hid (fun w1 => by
    refine (rquote_any t ht w1).mono ?_
    rintro e w' ⟨a, k', rfl, ha, hk', hb⟩
    exact ⟨by rw [hk', HKQ.out, bytes_ext (ha.trans HQ.out.symm)], hb⟩)
  go_enter Tryz.func6, Tryz.ntmps6
  go_wp2_with (first
    | (go_at_call 17; refine H1.out.mono ?_; rintro e w1 ⟨ao, cap, rfl, hr1, hb1⟩; have HL1 := Lib.hid hr1; have HB1 := Lib.hid hb1; clear hr1 hb1 H1)
    | (go_at_call 18; refine (H2.out _).mono ?_; rintro e w2 ⟨bo, cap2, rfl, hr2, hb2⟩; have HL2 : Hid (Lst w ao bo ws w2) := Lib.hid ⟨below_step HB1.out hb2, HL1.out.kept hb2, hr2⟩; clear hr2 hb2 H2)
    | (go_at_call 19; refine (H3.out _ HL2.out.below).mono ?_; rintro e w3 ⟨rfl, hb3⟩; have HL3 := Lib.hid (HL2.out.kept hb3); clear hb3 H3)
    | (go_at_call 20; refine (H4.out _).mono ?_; rintro e w4 ⟨rfl, hb4⟩; have HL4 := Lib.hid (HL3.out.kept hb4); clear hb4 H4))
  go_loopg [13] ws.length (fun g s13 wx => ∃ i : Nat, i + g = ws.length ∧ s13 = .int .i64 i ∧ Hid (Lst w ao bo ws wx))
  case atStart => exact ⟨0, by omega, rfl, HL4⟩
  case round =>
    obtain ⟨i, hig, rfl, HR⟩ := hrel
    cases gk with
    | succ g =>
      have hi : i < ws.length := by omega
      have htop := HR.out.l.top
      have c0 : (i : Int) < (ws.length : Int) := by omega
      obtain ⟨x, hx⟩ : ∃ x, ws[i]? = some x := ⟨_, List.getElem?_eq_getElem hi⟩
      obtain ⟨b, rfl, hb, hcb⟩ := HR.out.l.row (by omega)
      obtain ⟨b2, rfl, hb2, hcb2⟩ := HR.out.m.row (by omega)
      have d0 : wr.cell? ⟨b, i, none⟩ = some (.string ⟨x.toArray⟩) := hcb i x hx
      have d1 : wr.cell? ⟨b2, i, none⟩ = some (.string ⟨x.toArray⟩) := hcb2 i x hx
      clear hcb hcb2 hb hb2 hx
      have HRd : Hid (Lst w (some ⟨b, 0, none⟩) (some ⟨b2, 0, none⟩) ws wr.drew) := Lib.hid (HR.out.kept ⟨rfl, rfl, rfl, Nat.le_refl _, fun _ _ => rfl⟩)
      have e0 : wr.drew.cell? ⟨b, i, none⟩ = some (.string ⟨x.toArray⟩) := d0
      have e1 : wr.drew.cell? ⟨b2, i, none⟩ = some (.string ⟨x.toArray⟩) := d1
      go_wp2
      first | (go_region_held3 (fun w' => w'.cell? ⟨b, i, none⟩ = some (.string ⟨x.toArray⟩) ∧ w'.cell? ⟨b2, i, none⟩ = some (.string ⟨x.toArray⟩) ∧ Hid (Lst w (some ⟨b, 0, none⟩) (some ⟨b2, 0, none⟩) ws w'))
        (first
          | exact ⟨d0, d1, HR⟩
          | exact ⟨e0, e1, HRd⟩
          | assumption
          | fail)
        (fail)) | fail
      obtain ⟨_, _, HSx⟩ := ‹_ ∧ _ ∧ Hid _›
      go_wp2
      go_roundg g
      case measure => omega
      case rel => exact ⟨i + 1, by omega, by first | (simp; done) | (simp; omega), HSx⟩
    | zero =>
      obtain rfl : i = ws.length := by omega
      have c0 : ¬ (ws.length : Int) < (ws.length : Int) := by omega
      by_cases hk0 : kq = 0
      · subst hk0
        by_cases hql : 1024 < q.size
        · have c1 : (1024 : Int) < (q.size : Int) := by omega
          go_wp2_with (go_at_call 16; refine (HA.out _ HR.out.below).mono ?_; rintro e w6 ⟨rfl, hb6⟩; have HB6 := Lib.hid (below_step HR.out.below hb6); clear hb6)
          go_ret
          exact ⟨by simp, HB6.out⟩
        · have c1 : ¬ (1024 : Int) < (q.size : Int) := by omega
          have HO := Lib.hid (words_quote (t := t.data.toList) HKQ.out (by rw [← HQ.out, ← Lib.size_eq]; omega))
          have H5 : Hid (Calls Tryz.prog 17 #[.string q] wr fun e w' => ∃ ao cap b, e = .returned (.tuple #[.slice ao 1 cap, .int .i64 0]) ∧ ao = some ⟨b, 0, none⟩ ∧ w'.cell? ⟨b, 0, none⟩ = some (.string t) ∧ Below wr.heap.size wr w') := Lib.hid (by
            refine (words_any q wr).mono ?_
            rintro e w' ⟨v, k', rfl, ho, hk', hb⟩
            rw [HQ.out, HO.out] at ho hk'
            obtain ⟨ao, cap, rfl, h⟩ := wrow_of ho
            obtain ⟨b, rfl, _, hc⟩ := h.row Nat.one_pos
            exact ⟨_, cap, b, by rw [hk']; rfl, rfl, hc 0 _ rfl, hb⟩)
          go_wp2_with (first
            | (go_at_call 17; refine H5.out.mono ?_; rintro e w5 ⟨ao5, cap5, b5, rfl, rfl, hc5, hb5⟩; have HR := Lib.hid (HR.out.kept hb5); clear hb5)
            | (go_at_call 16; refine (HA.out _ HR.out.below).mono ?_; rintro e w6 ⟨rfl, hb6⟩; have HB6 := Lib.hid (below_step HR.out.below hb6); clear hb6))
          go_ret
          exact ⟨by simp, HB6.out⟩
      · have c1 : (kq != 0) = true := by simpa using hk0
        go_wp2_with (go_at_call 16; refine (HA.out _ HR.out.below).mono ?_; rintro e w6 ⟨rfl, hb6⟩; have HB6 := Lib.hid (below_step HR.out.below hb6); clear hb6)
        go_ret
        exact ⟨by simp, HB6.out⟩
end Go.Proofs.Cw
