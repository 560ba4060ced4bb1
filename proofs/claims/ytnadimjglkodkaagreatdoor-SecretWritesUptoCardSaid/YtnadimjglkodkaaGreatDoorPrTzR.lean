/- secrets: what SecretFinds says, with no program in sight. -/
import Derived.Test.YtnadimjglkodkaaGreatDoorPrTzS
import Derived.Test.YtnadimjglkodkaaGreatDoorPrTzQ
import Derived.Test.YtnadimjglkodkaaGreatDoorPrTzP
import Derived.Test.YtnadimjglkodkaaGreatDoorPrSbK
namespace Go.Proofs.Sa
open Go Go.RowKit Go.Pl Go.Maps
theorem Like.right {x y : Sec} (h : Like x y) : y.right = x.right := by
  obtain ⟨h1, h2, h3, _, h5⟩ := h
  unfold Sec.right
  rw [h1, h2, h3, h5]
theorem like_len : ∀ {l m : List Sec}, AllLike l m → m.length = l.length
  | [], [], _ => rfl
  | [], _ :: _, h => h.elim
  | _ :: _, [], h => h.elim
  | _ :: _, _ :: _, h => by simp [like_len h.2]
theorem like_get : ∀ {l m : List Sec} {k : Nat} {x : Sec}, AllLike l m → l[k]? = some x → ∃ y, m[k]? = some y ∧ Like x y
  | [], _, _, _, _, h => by simp at h
  | _ :: _, [], _, _, h, _ => h.elim
  | x :: l, y :: m, 0, z, h, hz => by
    have : x = z := by simpa using hz
    subst this
    exact ⟨y, rfl, h.1⟩
  | x :: l, y :: m, k + 1, z, h, hz => by
    obtain ⟨u, h1, h2⟩ := like_get (l := l) (m := m) (k := k) (x := z) h.2 (by simpa using hz)
    exact ⟨u, by simpa using h1, h2⟩
theorem like_one {x y : Sec} (h : Like x y) : oneR y x = true := by
  obtain ⟨h1, h2, h3, _, h5⟩ := h
  simp [oneR, sameB, h1, h2, h3, h5]
theorem like_oneL {x y z : Sec} (h : Like x y) : oneR y z = oneR x z := by
  obtain ⟨h1, h2, h3, _, h5⟩ := h
  simp [oneR, h1, h2, h3, h5]
theorem like_self : ∀ {l m : List Sec}, AllLike l m → sameL m l = true
  | [], [], _ => rfl
  | [], _ :: _, h => h.elim
  | _ :: _, [], h => h.elim
  | x :: l, y :: m, h => by simp [sameL, like_one h.1, like_self h.2]
theorem like_same : ∀ {l m r : List Sec}, AllLike l m → sameL m r = sameL l r
  | [], [], _, _ => rfl
  | [], _ :: _, _, h => h.elim
  | _ :: _, [], _, h => h.elim
  | _ :: _, _ :: _, [], _ => rfl
  | x :: l, y :: m, z :: r, h => by simp only [sameL, like_oneL h.1, like_same (r := r) h.2]
theorem like_bad : ∀ {l m : List Sec} (i : Nat), AllLike l m → firstBad i m = firstBad i l
  | [], [], _, _ => rfl
  | [], _ :: _, _, h => h.elim
  | _ :: _, [], _, h => h.elim
  | x :: l, y :: m, i, h => by
    unfold firstBad
    rw [h.1.right, like_bad (i + 1) h.2]
theorem like_wrong {l m : List Sec} (h : AllLike l m) : wrongR m = wrongR l := by
  unfold wrongR
  rw [like_len h, like_bad 0 h]
theorem bad_zero : ∀ (l : List Sec) (i : Nat), (firstBad i l).1 = 0 → firstBad i l = (0, 0)
  | [], _, _ => rfl
  | x :: l, i, h => by
    unfold firstBad at h ⊢
    split at h
    · rename_i hr
      rw [if_pos hr]
      exact bad_zero l (i + 1) h
    · rename_i hr
      exact absurd h hr
theorem wrong_zero {l : List Sec} (h : (wrongR l).1 = 0) : wrongR l = (0, 0) := by
  unfold wrongR at h ⊢
  split at h
  · cases h
  · rename_i hl
    rw [if_neg hl]
    exact bad_zero l 0 h
theorem Only.below {B C : Nat} {w wx w' : World} (h : Only B C wx w') (hb : Below w.heap.size w wx) (hB : w.heap.size ≤ B) : Below w.heap.size w w' :=
  ⟨h.os.trans hb.os, h.tape.trans hb.tape, h.output.trans hb.output, by rw [h.size]; exact hb.size, fun k hk => (h.far k (.inl (by omega))).trans (hb.block k hk)⟩
theorem Only.cell {B C : Nat} {w w' : World} (h : Only B C w w') {a : Addr} {v : Value} (ha : w.cell? a = some v) (hC : C ≤ a.block) : w'.cell? a = some v :=
  (World.cell?_of_block (h.far a.block (.inr hC))).trans ha
theorem Ints.only {B C : Nat} {w w' : World} {ao : Option Addr} {n : Nat} {zs : List Int} (hi : Ints w ao n zs) (ho : OwnI C w ao) (h : Only B C w w') : Ints w' ao n zs :=
  ⟨hi.len, hi.wf, fun h0 => by
    obtain ⟨b, off, h1, h2, h3⟩ := hi.row h0
    exact ⟨b, off, h1, by rw [h.size]; exact h2, fun j hj => h.cell (h3 j hj) (ho _ h1).1⟩⟩
theorem OwnI.only {B C D : Nat} {w w' : World} {ao : Option Addr} (ho : OwnI D w ao) (h : Only B C w w') (hD : C ≤ D) : OwnI D w' ao := fun a ha => by
  obtain ⟨h1, cur, h2⟩ := ho a ha
  exact ⟨h1, cur, (h.far _ (.inr (Nat.le_trans hD h1))).trans h2⟩
theorem Secs.below {w w' : World} {ao : Option Addr} {n : Nat} {l : List Sec} (h : Secs w ao n l) (hb : Below w.heap.size w w') : Secs w' ao n l := h.kept hb
theorem nums_of {B : Nat} {w : World} {ao : Option Addr} {n : Nat} {zs : List Int} (hi : Ints w ao n zs) (ho : OwnI B w ao) (h0 : 0 < n) : ∃ b off cur, ao = some ⟨b, off, none⟩ ∧ B ≤ b ∧ b < w.heap.size ∧ w.heap[b]? = some (.cells cur 2 (0, 0)) ∧ off + n ≤ cur.size := by
  obtain ⟨b, off, h1, h2, h3⟩ := hi.row h0
  obtain ⟨h4, cur, h5⟩ := ho _ h1
  refine ⟨b, off, cur, h1, h4, h2, h5, ?_⟩
  have := h3 (n - 1) (by omega)
  simp only [World.cell?] at this
  simp only at h5
  rw [h5] at this
  have := (Array.getElem?_eq_some_iff.1 (by simpa using this)).1
  omega
/-- A row that the call owns may be written over. -/
theorem spl_own {B : Nat} {w : World} {ao : Option Addr} {n cap : Nat} {l : List Sec} (h : w.ownsRow B 93 4 (.slice ao n cap) n (cellsL l)) (hi : ∀ y ∈ l, Ints w y.ao y.n y.zs ∧ OwnI B w y.ao) :
    (ao = none ∧ n = 0 ∧ cap = 0) ∨ ∃ g, ao = some ⟨g, 0, none⟩ ∧ l.length = n ∧ Spl B w.heap.size g l w w := by
  obtain ⟨hl, ⟨e, h0⟩ | ⟨g, cap', cur, e, hg, hh, hnc, _, hcs, ht⟩⟩ := h
  · simp only [Value.slice.injEq] at e
    exact .inl ⟨e.1, h0, e.2.2⟩
  · simp only [Value.slice.injEq] at e
    obtain ⟨rfl, _, rfl⟩ := e
    rw [cellsL_len] at hl
    have hl' : l.length = n := by omega
    have hle : l.length * 4 ≤ cur.size := by
      have := congrArg List.length ht
      rw [List.length_take, cellsL_len] at this
      simp at this
      omega
    refine .inr ⟨g, rfl, hl', ⟨Only.refl _ _ _, ⟨hg, (Array.getElem?_eq_some_iff.1 hh).1⟩, ⟨cur, hh, hle, fun j y hy => ?_⟩, fun y hy h0 => nums_of (hi y hy).1 (hi y hy).2 h0⟩⟩
    have h3 := cellsL_get l j 3 y _ hy rfl
    rw [← ht, List.getElem?_take_of_lt (by have := (List.getElem?_eq_some_iff.1 hy).1; omega)] at h3
    rw [← Array.getElem?_toList]
    exact h3
set_option maxRecDepth 1000000 in
theorem spoil_nil (w : World) : Calls Tryz.prog 25 #[.slice none 0 0] w fun e w' => e = .returned (.tuple #[]) ∧ w' = w := by
  go_enter Tryz.func25, Tryz.ntmps25
  go_wp2
  go_loopg [6] 0 (fun r s6 wx => ∃ i : Nat, i + r = 0 ∧ s6 = .int .i64 i ∧ wx = w)
  case atStart => exact ⟨0, by omega, rfl, rfl⟩
  case round =>
    obtain ⟨i, hig, rfl, rfl⟩ := hrel
    cases gk with
    | zero =>
      obtain rfl : i = 0 := by omega
      go_wp2
      go_end0
      exact ⟨rfl, rfl⟩
    | succ r => omega
end Go.Proofs.Sa
