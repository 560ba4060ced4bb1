/- options: the document's cut. -/
import Derived.Test.YtbegpgheikibjaaGreatDoorPrCnC
namespace Go.Proofs.Cn
open Go Go.RowKit Go.Pl Go.Maps Go.Proofs.Sa Go.Lib
def strV (l : List UInt8) : Value := .string ⟨l.toArray⟩
def wordsV (ws : List (List UInt8)) : List Value := ws.map strV
theorem strV_of {t : ByteArray} {l : List UInt8} (h : t.data.toList = l) : Value.string t = strV l := by subst h; rfl
/-- A row of words that can be read. -/
structure WRow (w : World) (ao : Option Addr) (n : Nat) (ws : List (List UInt8)) : Prop where
  len : ws.length = n
  top : n ≤ 9223372036854775807
  row : 0 < n → ∃ b, ao = some ⟨b, 0, none⟩ ∧ b < w.heap.size ∧ ∀ j x, ws[j]? = some x → w.cell? ⟨b, j, none⟩ = some (strV x)
theorem WRow.kept {w w' : World} {ao : Option Addr} {n : Nat} {ws : List (List UInt8)} (h : WRow w ao n ws) (hb : Below w.heap.size w w') : WRow w' ao n ws :=
  ⟨h.len, h.top, fun h0 => by
    obtain ⟨b, h1, h2, h3⟩ := h.row h0
    exact ⟨b, h1, Nat.lt_of_lt_of_le h2 hb.size, fun j x hx => (hb.cell h2).trans (h3 j x hx)⟩⟩
theorem wrow_of {w : World} {B : Nat} {v : Value} {ws : List (List UInt8)} (h : w.ownsRow B 9 1 v ws.length (wordsV ws)) : ∃ ao cap, v = .slice ao ws.length cap ∧ WRow w ao ws.length ws := by
  rcases h.2 with ⟨rfl, h0⟩ | ⟨g, cap, cur, rfl, _, hg, hn, hm, _, htk⟩
  · exact ⟨none, 0, by rw [h0], rfl, by omega, fun h => by omega⟩
  · refine ⟨_, cap, rfl, rfl, by unfold maxLen at hm; omega, fun _ => ⟨g, rfl, (Array.getElem?_eq_some_iff.1 hg).1, fun j x hx => ?_⟩⟩
    have hj : j < ws.length := (List.getElem?_eq_some_iff.1 hx).1
    have h2 : cur.toList[j]? = some (strV x) := by
      have : (cur.toList.take (ws.length * 1))[j]? = cur.toList[j]? := List.getElem?_take_of_lt (by omega)
      rw [← this, htk]
      simp [wordsV, hx]
    simp only [World.cell?, hg]
    rw [← Array.getElem?_toList]; exact h2
theorem cutAt_app (c : UInt8) : ∀ (p r : List UInt8), (∀ x ∈ p, x ≠ c) → cutAt c (p ++ c :: r) = p :: cutAt c r
  | [], r, _ => by simp [cutAt]
  | x :: p, r, h => by
    have hx : x ≠ c := h x (List.mem_cons_self ..)
    have ih := cutAt_app c p r (fun y hy => h y (List.mem_cons_of_mem _ hy))
    show cutAt c (x :: (p ++ c :: r)) = _
    conv => lhs; unfold cutAt
    rw [if_neg (by simpa using hx), ih]; rfl
theorem cutAt_all (c : UInt8) : ∀ (p : List UInt8), (∀ x ∈ p, x ≠ c) → cutAt c p = [p]
  | [], _ => by simp [cutAt]
  | x :: p, h => by
    have hx : x ≠ c := h x (List.mem_cons_self ..)
    have ih := cutAt_all c p (fun y hy => h y (List.mem_cons_of_mem _ hy))
    conv => lhs; unfold cutAt
    rw [if_neg (by simpa using hx), ih]; rfl
/-- What holds ahead of a round. -/
structure Cst (w : World) (c : UInt8) (l : List UInt8) (i fr : Nat) (acc : List (List UInt8)) (v : Value) (wx : World) : Prop where
  own : wx.ownsRow w.heap.size 9 1 v acc.length (wordsV acc)
  below : Below w.heap.size w wx
  le : fr ≤ i
  mid : i ≤ l.length → acc ++ cutAt c (l.drop fr) = cutAt c l ∧ ∀ x ∈ (l.drop fr).take (i - fr), x ≠ c
  fin : l.length < i → acc = cutAt c l
  len : acc.length ≤ i
theorem Cst.skip {w wx : World} {c : UInt8} {l : List UInt8} {i fr : Nat} {acc : List (List UInt8)} {v : Value} {x : UInt8} (h : Cst w c l i fr acc v wx) (hi : l[i]? = some x) (hx : x ≠ c) : Cst w c l (i + 1) fr acc v wx := by
  have hil : i < l.length := (List.getElem?_eq_some_iff.1 hi).1
  refine ⟨h.own, h.below, Nat.le_succ_of_le h.le, fun _ => ⟨(h.mid (by omega)).1, fun y hy => ?_⟩, fun h2 => by omega, Nat.le_succ_of_le h.len⟩
  have e : (l.drop fr).take (i + 1 - fr) = (l.drop fr).take (i - fr) ++ [x] := by
    have hle := h.le
    rw [show i + 1 - fr = (i - fr) + 1 by omega, List.take_add_one, List.getElem?_drop, show fr + (i - fr) = i by omega, hi]; rfl
  rw [e] at hy
  rcases List.mem_append.1 hy with hy | hy
  · exact (h.mid (by omega)).2 y hy
  · simp at hy; rw [hy]; exact hx
theorem Cst.next {w wx w3 : World} {c : UInt8} {l : List UInt8} {i fr : Nat} {acc : List (List UInt8)} {v v' : Value} {o : Obj} (h : Cst w c l i fr acc v wx) (hi : i ≤ l.length) (hx : i = l.length ∨ l[i]? = some c)
    (hown : w3.ownsRow w.heap.size 9 1 v' (acc.length + 1) (wordsV acc ++ [strV ((l.drop fr).take (i - fr))])) (hg : (wx.alloc o).grownBy w3 v.ownBlock) : Cst w c l (i + 1) (i + 1) (acc ++ [(l.drop fr).take (i - fr)]) v' w3 := by
  have hle := h.le
  obtain ⟨h1, h2⟩ := h.mid hi
  have hcut : cutAt c (l.drop fr) = (l.drop fr).take (i - fr) :: (if i = l.length then [] else cutAt c (l.drop (i + 1))) := by
    by_cases he : i = l.length
    · rw [if_pos he]
      have : (l.drop fr).take (i - fr) = l.drop fr := List.take_of_length_le (by rw [List.length_drop]; omega)
      rw [this] at h2 ⊢
      exact cutAt_all c _ h2
    · rw [if_neg he]
      have hc : l[i]? = some c := hx.resolve_left he
      have e : l.drop fr = (l.drop fr).take (i - fr) ++ c :: l.drop (i + 1) := by
        have hil : i < l.length := by omega
        have e2 : (l.drop fr).drop (i - fr) = c :: l.drop (i + 1) := by
          rw [List.drop_drop, show fr + (i - fr) = i by omega, List.drop_eq_getElem_cons hil]
          have : l[i] = c := by rw [List.getElem?_eq_getElem hil] at hc; exact Option.some.inj hc
          rw [this]
        conv => lhs; rw [← List.take_append_drop (i - fr) (l.drop fr), e2]
      conv => lhs; rw [e]
      exact cutAt_app c _ _ h2
  refine ⟨?_, (h.below.alloc h.below.size o).grown hg (by have := h.below.size; simp; omega) (fun k hk => (h.own.lt k hk).1), Nat.le_refl _, fun h3 => ⟨?_, by simp⟩, fun h3 => ?_, by have := h.len; simp; omega⟩
  · have : wordsV (acc ++ [(l.drop fr).take (i - fr)]) = wordsV acc ++ [strV ((l.drop fr).take (i - fr))] := by simp [wordsV]
    rw [this, List.length_append]; exact hown
  · rw [← h1, hcut, if_neg (by omega), List.append_assoc]; rfl
  · rw [← h1, hcut, if_pos (by omega)]
set_option maxRecDepth 1000000 in
set_option maxHeartbeats 3200000 in
theorem cut_any (s : ByteArray) (c : UInt8) (hs : s.size ≤ 1048576) (w : World) : Calls Tryz.prog 39 #[.string s, .int .u8 c.toNat] w fun e w' => ∃ v, e = .returned v ∧ w'.ownsRow w.heap.size 9 1 v (cutAt c s.data.toList).length (wordsV (cutAt c s.data.toList)) ∧ Below w.heap.size w w' := by
  have HSZ := Lib.hid (Lib.size_eq s)
  obtain ⟨i0, hi0, hz0, hz1, hz2⟩ := info_parts info9
  have HS0 : Hid (Cst w c s.data.toList 0 0 [] (.slice none 0 0) w) := Lib.hid ⟨World.ownsRow_nil _ _ _ _, Below.refl _ _, Nat.le_refl _, fun _ => ⟨rfl, by simp⟩, fun h => by omega, Nat.le_refl _⟩
  go_enter Tryz.func39, Tryz.ntmps39
  go_wp2
  go_loopg [5, 6, 7] (s.size + 1) (fun g s5 s6 s7 wx => ∃ (i fr : Nat) (acc : List (List UInt8)) (v : Value), i + g = s.size + 1 ∧ fr ≤ i ∧ v = s5 ∧ s6 = .int .i64 fr ∧ s7 = .int .i64 i ∧ Hid (Cst w c s.data.toList i fr acc v wx))
  case atStart => exact ⟨0, 0, [], _, by omega, by omega, rfl, rfl, rfl, HS0⟩
  case round =>
    obtain ⟨i, fr, acc, v, hig, hfi, rfl, rfl, rfl, HR⟩ := hrel
    have hal : acc.length ≤ i := HR.out.len
    cases gk with
    | zero =>
      have c0 : ¬ (i : Int) ≤ (s.size : Int) := by omega
      have HF := Lib.hid (HR.out.fin (by have := HSZ.out; omega))
      go_wp2
      go_ret
      exact ⟨_, rfl, by rw [← HF.out]; exact HR.out.own, HR.out.below⟩
    | succ g =>
      have c0 : (i : Int) ≤ (s.size : Int) := by omega
      have c5 : (fr : Int) ≤ (i : Int) := by omega
      by_cases he : i = s.size
      · subst he
        have c1 : ((s.size : Int) == (s.size : Int)) = true := by simp
        go_wp2_with (at_builtin; refine wpList_append_own _ rfl _ _ 36 rfl w.heap.size 9 i0 (.string ⟨#[]⟩) 1 16 Tryz.underlying36 hi0 hz0 hz1 hz2 rfl (by decide) _ _ _ rfl (HR.out.own.alloc _) ⟨wr.heap.size, 0, none⟩ 1 1 [.string (s.extract fr s.size)] rfl rfl (cell_one_new _ _ _) (fun u hu => by simp at hu; subst hu; rfl) (by unfold maxLen; omega) (by omega) (by have := HR.out.below.size; simp; omega) ?_; intro v' w3 hown' hgrow' hnil')
        go_roundg g
        case measure => omega
        case rel => exact ⟨s.size + 1, s.size + 1, _, _, by omega, by omega, rfl, by first | rfl | (simp; done), by first | rfl | (simp; done), Lib.hid (HR.out.next (by have := HSZ.out; omega) (.inl HSZ.out) (by rw [← strV_of (Lib.extract_data s fr s.size)]; exact hown') hgrow')⟩
      · have c1 : ((i : Int) == (s.size : Int)) = false := by simp; omega
        have hi : i < s.size := by omega
        have c2 : (i : Int) < (s.size : Int) := by omega
        have HX := Lib.hid (Lib.data_getElem? s i hi)
        by_cases hc : s[i] = c
        · have c3 : (((s[i]).toNat : Int) == (c.toNat : Int)) = true := by rw [hc]; simp
          rw [hc] at HX
          clear hc
          go_wp2_with (at_builtin; refine wpList_append_own _ rfl _ _ 36 rfl w.heap.size 9 i0 (.string ⟨#[]⟩) 1 16 Tryz.underlying36 hi0 hz0 hz1 hz2 rfl (by decide) _ _ _ rfl (HR.out.own.alloc _) ⟨wr.heap.size, 0, none⟩ 1 1 [.string (s.extract fr i)] rfl rfl (cell_one_new _ _ _) (fun u hu => by simp at hu; subst hu; rfl) (by unfold maxLen; omega) (by omega) (by have := HR.out.below.size; simp; omega) ?_; intro v' w3 hown' hgrow' hnil')
          go_roundg g
          case measure => omega
          case rel => exact ⟨i + 1, i + 1, _, _, by omega, by omega, rfl, by first | rfl | (simp; done), by first | rfl | (simp; done), Lib.hid (HR.out.next (by have := HSZ.out; omega) (.inr HX.out) (by rw [← strV_of (Lib.extract_data s fr i)]; exact hown') hgrow')⟩
        · have c3 : (((s[i]).toNat : Int) == (c.toNat : Int)) = false := by
            simp only [beq_eq_false_iff_ne]
            intro e
            exact hc (UInt8.toNat_inj.1 (by omega))
          have HS := Lib.hid (HR.out.skip HX.out hc)
          clear hc
          go_wp2
          go_roundg g
          case measure => omega
          case rel => exact ⟨i + 1, fr, acc, v, by omega, by omega, rfl, rfl, by first | rfl | (simp; done), HS⟩
end Go.Proofs.Cn
