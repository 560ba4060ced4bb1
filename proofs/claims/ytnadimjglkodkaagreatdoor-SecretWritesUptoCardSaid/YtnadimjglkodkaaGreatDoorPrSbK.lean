/- secrets: what SecretBest says, with no program in sight. -/
import Derived.Test.YtnadimjglkodkaaGreatDoorPrSaDef
namespace Go.Proofs.Sa
open Go Go.RowKit Go.Pl
def Holds (cl sv : ByteArray) (L : List Sec) (s : Int × Int) : Prop := s.1 < 0 ∨ ∃ (k : Nat) (y : Sec), s.2 = k ∧ L[k]? = some y ∧ skipB cl sv y = false ∧ s.1 = rankI cl sv y
theorem rank_nonneg (cl sv : ByteArray) (x : Sec) : 0 ≤ rankI cl sv x := by unfold rankI; split <;> split <;> decide
theorem step_holds {cl sv : ByteArray} {L : List Sec} {i : Nat} {s : Int × Int} {x : Sec} (h : Holds cl sv L s) (hx : L[i]? = some x) : Holds cl sv L (stepF cl sv i s x) := by
  unfold stepF
  split
  · exact h
  · rename_i hs
    split
    · exact .inr ⟨i, x, rfl, hx, by simpa using hs, rfl⟩
    · exact h
theorem scan_holds {cl sv : ByteArray} {L : List Sec} : ∀ (l : List Sec) (i : Nat) (s : Int × Int), L.drop i = l → Holds cl sv L s → Holds cl sv L (scanF cl sv i s l)
  | [], _, _, _, h => h
  | x :: l, i, s, hd, h => by
    have hx : L[i]? = some x := by
      have := congrArg (·[0]?) hd
      simpa [List.getElem?_drop] using this
    have hd' : L.drop (i + 1) = l := by
      rw [← List.drop_drop, hd]; rfl
    exact scan_holds l (i + 1) _ hd' (step_holds h hx)
theorem scan_append (cl sv : ByteArray) : ∀ (l l' : List Sec) (i : Nat) (s : Int × Int), scanF cl sv i s (l ++ l') = scanF cl sv (i + l.length) (scanF cl sv i s l) l'
  | [], _, _, _ => rfl
  | x :: l, l', i, s => by
    rw [List.cons_append, scan_step, scan_step, scan_append cl sv l l', List.length_cons]
    congr 1; omega
theorem scan_keep (cl sv : ByteArray) (s : Int × Int) : ∀ (l : List Sec) (i : Nat), (∀ x ∈ l, skipB cl sv x = true ∨ ¬ s.1 < rankI cl sv x) → scanF cl sv i s l = s
  | [], _, _ => rfl
  | x :: l, i, h => by
    have hs : stepF cl sv i s x = s := by
      unfold stepF
      rcases h x (List.mem_cons_self ..) with h1 | h1
      · rw [if_pos h1]
      · split
        · rfl
        · simp
    rw [scan_step, hs]
    exact scan_keep cl sv s l (i + 1) fun y hy => h y (List.mem_cons_of_mem _ hy)
/-- Is a line taken behind the others? -/
def keepB (ok : Bool) (a : Sec) (cl sv : ByteArray) (x : Sec) : Bool := (ok && sameB x.c a.c && sameB x.sv a.sv) || (!sameB x.c cl && !starB x.c) || (!sameB x.sv sv && !starB x.sv)
theorem found_at {l : List Sec} {cl sv : ByteArray} {a : Sec} {ok : Bool} (hF : foundR l cl sv = (a, ok)) :
    ((scanF cl sv 0 (-1, 0) l).1 < 0 ∧ a = zeroSec ∧ ok = false) ∨ ∃ k : Nat, ok = true ∧ (scanF cl sv 0 (-1, 0) l).2 = k ∧ l[k]? = some a ∧ skipB cl sv a = false ∧ (scanF cl sv 0 (-1, 0) l).1 = rankI cl sv a := by
  unfold foundR at hF
  split at hF
  · rename_i h
    simp only [Prod.mk.injEq] at hF
    exact .inl ⟨h, hF.1.symm, hF.2.symm⟩
  · rename_i h
    rcases scan_holds l 0 (-1, 0) (L := l) rfl (.inl (by decide)) with h' | ⟨k, y, h1, h2, h3, h4⟩
    · exact absurd h' h
    · rw [h1] at hF
      simp only [Int.toNat_natCast, h2, Option.getD_some, Prod.mk.injEq] at hF
      obtain ⟨rfl, rfl⟩ := hF
      exact .inr ⟨k, rfl, h1, h2, h3, h4⟩
theorem same_eq {a b : ByteArray} (h : sameB a b = true) : a.toList = b.toList := by simpa [sameB] using h
theorem found_more {l l' : List Sec} {cl sv : ByteArray} {a : Sec} {ok : Bool} (hF : foundR l cl sv = (a, ok)) (h : ∀ x ∈ l', keepB ok a cl sv x = true) : foundR (l ++ l') cl sv = (a, ok) := by
  have hk : scanF cl sv 0 (-1, 0) (l ++ l') = scanF cl sv 0 (-1, 0) l := by
    rw [scan_append]
    refine scan_keep cl sv _ l' _ fun x hx => ?_
    have hx := h x hx
    simp only [keepB, Bool.or_eq_true, Bool.and_eq_true] at hx
    rcases hx with (⟨⟨h1, h2⟩, h3⟩ | h2) | h2
    · right
      rcases found_at hF with ⟨_, _, h4⟩ | ⟨k, _, _, _, _, h5⟩
      · rw [h1] at h4; cases h4
      · rw [h5]
        have e1 := same_eq h2
        have e2 := same_eq h3
        have : rankI cl sv x = rankI cl sv a := by unfold rankI sameB; rw [e1, e2]
        omega
    · left
      simp [skipB, h2.1, h2.2]
    · left
      simp [skipB, h2.1, h2.2]
  unfold foundR
  rw [hk]
  unfold foundR at hF
  rcases found_at (l := l) (cl := cl) (sv := sv) (a := a) (ok := ok) hF with ⟨h1, rfl, rfl⟩ | ⟨k, rfl, h1, h2, _, h4⟩
  · rw [if_pos h1]
  · have hn : ¬ (scanF cl sv 0 (-1, 0) l).1 < 0 := by rw [h4]; have := rank_nonneg cl sv a; omega
    rw [if_neg hn, h1]
    have : (l ++ l')[k]? = some a := by rw [List.getElem?_append_left (List.getElem?_eq_some_iff.1 h2).1, h2]
    simp [this]
theorem found_right {l : List Sec} {cl sv : ByteArray} {a : Sec} (hF : foundR l cl sv = (a, true)) : a.right = 0 ∧ (sameB a.c cl = true ∨ starB a.c = true) ∧ (sameB a.sv sv = true ∨ starB a.sv = true) ∧ a ∈ l := by
  rcases found_at hF with ⟨_, _, h⟩ | ⟨k, _, _, h2, h3, _⟩
  · cases h
  · simp only [skipB, Bool.or_eq_false_iff, Bool.and_eq_false_iff, Bool.not_eq_false'] at h3
    obtain ⟨⟨⟨⟨_, _⟩, h4⟩, h5⟩, h6⟩ := h3
    exact ⟨by simpa using h6, h4, h5, List.mem_of_getElem? h2⟩
theorem one_same (x : Sec) : (sameB x.c x.c && sameB x.sv x.sv && sameB x.wd x.wd && x.zs == x.zs) = true := by simp [sameB]

/-! ### rows of secrets as cells -/

def cellsL (l : List Sec) : List Value := (l.map Sec.cells4).flatten
theorem cellsL_cons (x : Sec) (l : List Sec) : cellsL (x :: l) = x.cells4 ++ cellsL l := rfl
theorem cellsL_append (l m : List Sec) : cellsL (l ++ m) = cellsL l ++ cellsL m := by simp [cellsL]
theorem cellsL_len : ∀ l : List Sec, (cellsL l).length = l.length * 4
  | [] => rfl
  | x :: l => by rw [cellsL_cons, List.length_append, cellsL_len l, List.length_cons]; simp [Sec.cells4]; omega
theorem cellsL_get : ∀ (l : List Sec) (j k : Nat) (x : Sec) (u : Value), l[j]? = some x → x.cells4[k]? = some u → (cellsL l)[j * 4 + k]? = some u
  | [], _, _, _, _, h, _ => by simp at h
  | y :: l, 0, k, x, u, h, hk => by
    have : y = x := by simpa using h
    subst this
    rw [cellsL_cons, Nat.zero_mul, Nat.zero_add, List.getElem?_append_left (List.getElem?_eq_some_iff.1 hk).1, hk]
  | y :: l, j + 1, k, x, u, h, hk => by
    have h' : l[j]? = some x := by simpa using h
    rw [cellsL_cons, List.getElem?_append_right (by simp [Sec.cells4]; omega)]
    have : (j + 1) * 4 + k - y.cells4.length = j * 4 + k := by simp [Sec.cells4]; omega
    rw [this, cellsL_get l j k x u h' hk]
theorem cellsL_of : ∀ (l : List Sec) (j : Nat) (u : Value), (cellsL l)[j]? = some u → ∃ (i k : Nat) (x : Sec), l[i]? = some x ∧ x.cells4[k]? = some u ∧ j = i * 4 + k
  | [], _, _, h => by simp [cellsL] at h
  | y :: l, j, u, h => by
    rw [cellsL_cons] at h
    have hl : y.cells4.length = 4 := rfl
    rcases Nat.lt_or_ge j 4 with hj | hj
    · rw [List.getElem?_append_left (by omega)] at h
      exact ⟨0, j, y, rfl, h, by omega⟩
    · rw [List.getElem?_append_right (by omega), hl] at h
      obtain ⟨i, k, x, h1, h2, h3⟩ := cellsL_of l (j - 4) u h
      exact ⟨i + 1, k, x, by simpa using h1, h2, by omega⟩
theorem secs_news {w : World} {ao : Option Addr} {n : Nat} {l : List Sec} (h : Secs w ao n l) {a : Addr} (ha : ao = some a) : ∀ j u, (cellsL l)[j]? = some u → w.cell? (a.add j) = some u := by
  intro j u hu
  obtain ⟨i, k, x, h1, h2, rfl⟩ := cellsL_of l j u hu
  have hi : i < l.length := (List.getElem?_eq_some_iff.1 h1).1
  obtain ⟨b, off, rfl, _, hc⟩ := h.row (by rw [← h.len]; omega)
  cases ha
  obtain ⟨q0, q1, q2, q3⟩ := hc i x h1
  rw [Addr.add_lit]
  have hk : k < 4 := (List.getElem?_eq_some_iff.1 h2).1
  match k, hk, h2 with
  | 0, _, h2 => cases h2; exact q0
  | 1, _, h2 => cases h2; exact q1
  | 2, _, h2 => cases h2; exact q2
  | 3, _, h2 => cases h2; exact q3
theorem cells_one (l : List Sec) : ∀ u ∈ cellsL l, u.oneCell' = true := by
  intro u hu
  simp only [cellsL, List.mem_flatten, List.mem_map] at hu
  obtain ⟨c, ⟨x, _, rfl⟩, hu⟩ := hu
  simp [Sec.cells4] at hu
  rcases hu with rfl | rfl | rfl | rfl <;> rfl
theorem secs_own {w : World} {base n : Nat} {e : TypeId} {v : Value} {l : List Sec} (h : w.ownsRow base e 4 v n (cellsL l)) (hi : ∀ x ∈ l, Ints w x.ao x.n x.zs) : ∃ ao cap, v = .slice ao n cap ∧ Secs w ao n l ∧ (ao = none → cap = 0) := by
  obtain ⟨hl, hv⟩ := h
  rw [cellsL_len] at hl
  have hl' : l.length = n := by omega
  rcases hv with ⟨rfl, rfl⟩ | ⟨g, cap, cur, rfl, _, hh, _, _, _, ht⟩
  · exact ⟨none, 0, rfl, ⟨hl', fun h => absurd h (Nat.lt_irrefl 0), hi⟩, fun _ => rfl⟩
  · refine ⟨some ⟨g, 0, none⟩, cap, rfl, ⟨hl', fun _ => ⟨g, 0, rfl, (Array.getElem?_eq_some_iff.1 hh).1, fun j x hx => ?_⟩, hi⟩, fun h => by cases h⟩
    have hj : j < l.length := (List.getElem?_eq_some_iff.1 hx).1
    have hc : ∀ k u, x.cells4[k]? = some u → w.cell? ⟨g, 0 + j * 4 + k, none⟩ = some u := fun k u hu => by
      have hk : k < 4 := (List.getElem?_eq_some_iff.1 hu).1
      have := cellsL_get l j k x u hx hu
      rw [← ht, List.getElem?_take_of_lt (by omega)] at this
      simp only [World.cell?, hh, Nat.zero_add]
      rw [← Array.getElem?_toList]
      exact this
    exact ⟨hc 0 _ rfl, hc 1 _ rfl, hc 2 _ rfl, hc 3 _ rfl⟩
end Go.Proofs.Sa
