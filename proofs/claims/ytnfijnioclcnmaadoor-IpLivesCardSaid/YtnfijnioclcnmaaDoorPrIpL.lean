/- IP: bytes behind a packet's length change nothing: the law in plain rows. -/
import Derived.Test.YtnfijnioclcnmaaDoorPrIpJ
namespace Go.Proofs.YtnfijnioclcnmaaDoor
open Go Go.RowKit Go.Ev

theorem nth_take {c : List Value} {k i : Nat} (h : i < k) : nth (takeL c 0 k) i = nth c i := by
  rw [nth_eq, nth_eq]
  unfold takeL
  rw [List.getElem?_take, if_pos h, List.drop_zero]
theorem nth_app {a b : List Value} {i : Nat} (h : i < a.length) : nth (a ++ b) i = nth a i := by
  rw [nth_eq, nth_eq, List.getElem?_append_left h]
theorem nth_app2 {a b : List Value} {i : Nat} : nth (a ++ b) (a.length + i) = nth b i := by
  rw [nth_eq, nth_eq, List.getElem?_append_right (by omega)]
  congr 1; omega
theorem byteAt_congr {a b : List Value} {i j : Nat} (h : nth a i = nth b j) : byteAt a i = byteAt b j := by unfold byteAt; rw [h]
/-- A row that holds the same bytes. -/
theorem bytes_of {cs rs : List Value} {n : Nat} (hb : Bytes cs 0 n) (hf : flatL rs = true) {L : Nat} (hL : L ≤ n) (h : ∀ i, i < L → nth rs i = nth cs i) : Bytes rs 0 L := by
  refine ⟨hf, fun i hi => ?_, fun i hi => ?_, fun i hi => ?_, by have := hb.small; omega⟩
  · rw [Nat.zero_add, h i hi, byteAt_congr (h i hi)]
    have := hb.at_ i (by omega); rw [Nat.zero_add] at this; exact this
  · rw [Nat.zero_add, byteAt_congr (h i hi)]
    have := hb.lo i (by omega); rw [Nat.zero_add] at this; exact this
  · rw [Nat.zero_add, byteAt_congr (h i hi)]
    have := hb.hi i (by omega); rw [Nat.zero_add] at this; exact this
theorem flat_takeL {c : List Value} {k : Nat} (h : flatL c = true) : flatL (takeL c 0 k) = true := by
  unfold takeL
  rw [List.drop_zero]
  exact flat_take k h
theorem all_u8 {cs : List Value} {n m : Nat} (hb : Bytes cs 0 n) (h : m ≤ n) : (takeL cs 0 m).all isU8 = true := by
  rw [List.all_eq_true]
  intro v hv
  obtain ⟨i, hi⟩ := List.getElem?_of_mem hv
  unfold takeL at hi
  rw [List.getElem?_take, List.drop_zero] at hi
  split at hi
  · rename_i hlt
    have := hb.at_ i (by omega)
    rw [Nat.zero_add, nth_eq, hi] at this
    rw [Option.some.inj this]; rfl
  · cases hi
theorem bytes_len {cs : List Value} {n : Nat} (hb : Bytes cs 0 n) : n ≤ cs.length := by
  rcases Nat.eq_zero_or_pos n with h | h
  · omega
  · have := hb.at_ (n - 1) (by omega)
    rw [Nat.zero_add, nth_eq] at this
    have := (List.getElem?_eq_some_iff.1 this).1
    omega
theorem offT_zero (c : Nat) : offT c = 0 := by unfold offT; cases decide (c = 0) <;> rfl
theorem take_bytes {cs : List Value} {n L : Nat} (hb : Bytes cs 0 n) (hL : L ≤ n) : Bytes (takeL cs 0 L) 0 L := bytes_of hb (flat_takeL hb.flat) hL fun i hi => nth_take hi
/-- 'Trim' of a row that begins with a packet. -/
theorem trim_all {cs r : List Value} {n k L : Nat} (hr : Bytes r 0 k) (hL : 20 ≤ L) (hk : L ≤ k) (he : (parseF r k).err = 0) (hl : (parseF r k).len = (L : Int)) : All (trimP r k) ∧ lenT r k = L ∧ trimL r k = takeL r 0 L := by
  have hs := hr.small
  have hlen := bytes_len hr
  have e1 : lenT r k = L := by unfold lenT; rw [hl]; omega
  have e2 : trimL r k = takeL r 0 L := by unfold trimL; rw [offT_zero, e1]
  refine ⟨?_, e1, e2⟩
  unfold trimP parsedP
  refine All.append (All.cons rfl (All.cons rfl (All.cons (Nat.le_refl k) (All.cons hr All.nil)))) (All.cons (by rw [he]; rfl) (All.cons (Nat.le_refl k) (All.cons trivial (All.cons ⟨by omega, by omega⟩ (All.cons trivial (All.cons (by omega) (All.cons (by omega) (All.cons (by rw [offT_zero]; omega) (All.cons ?_ All.nil)))))))))
  rw [offT_zero, e1]
  exact all_one (all_u8 hr hk)
theorem rest_all {cs r : List Value} {n k : Nat} (hb : Bytes cs 0 n) (he : (parseF cs n).err = 0) (hr : Bytes r 0 k) (hnk : n ≤ k) (E : ∀ i, i < n → byteAt r i = byteAt cs i) : All (restP cs n r k) := by
  obtain ⟨L, hl, h20, hLn, hcut⟩ := parse_cut hb he
  have hs := hr.small
  obtain ⟨a1, a2, a3⟩ := hcut r k (by omega) fun i hi => E i (by omega)
  obtain ⟨t1, t2, t3⟩ := trim_all (cs := cs) (n := n) hr h20 (by omega) a1 a2
  have hT : Bytes (takeL r 0 L) 0 L := take_bytes hr (by omega)
  obtain ⟨b1, b2, b3⟩ := hcut (takeL r 0 L) L (Nat.le_refl L) fun i hi => by rw [byteAt_congr (nth_take hi)]; exact E i (by omega)
  obtain ⟨u1, u2, u3⟩ := trim_all (cs := cs) (n := n) hT h20 (Nat.le_refl L) b1 b2
  have hTT : Bytes (takeL (takeL r 0 L) 0 L) 0 L := take_bytes hT (Nat.le_refl L)
  have hL1 := bytes_len hT
  have hL2 := bytes_len hTT
  have hsame : takeL (takeL r 0 L) 0 L = takeL r 0 L := by
    unfold takeL
    simp [List.take_take]
  unfold restP
  rw [t2, t3, u2, u3]
  refine All.append (All.cons rfl (All.cons rfl (All.cons (Nat.le_refl k) (All.cons hr All.nil)))) (All.append t1 (All.append u1 ?_))
  refine All.cons (by rw [a1]; rfl) (All.cons a3.symm (All.cons (by rw [hl]; simp) (All.cons (by omega) (All.cons (by omega) (All.cons (all_u8 hT (Nat.le_refl L)) (All.cons (by omega) (All.cons (by omega) (All.cons (all_u8 hTT (Nat.le_refl L)) (All.cons ?_ All.nil)))))))))
  rw [hsame, hsame]
  simp
theorem first_all {cs : List Value} {n c : Nat} (hb : Bytes cs 0 n) (hc : n ≤ c) (he : (parseF cs n).err = 0) (hn : 0 < n) : All (firstP cs n c) := by
  have hlen := bytes_len hb
  unfold firstP parsedP
  exact All.append (All.cons rfl (All.cons rfl (All.cons hc (All.cons hb All.nil)))) (All.cons (by rw [he]; rfl) (All.cons hn (All.cons hb.small (All.cons (by omega) (All.cons (all_one (all_u8 hb (Nat.le_refl n))) All.nil)))))
theorem both_bytes {cs ms : List Value} {n m : Nat} (hb : Bytes cs 0 n) (hm : Bytes ms 0 m) (hs : n + m ≤ 140737488355328) : Bytes (bothL cs ms n m) 0 (n + m) ∧ ∀ i, i < n → byteAt (bothL cs ms n m) i = byteAt cs i := by
  have hlc := bytes_len hb
  have hlm := bytes_len hm
  have h1 : (takeL (takeL cs 0 n) 0 n).length = n := by rw [len_takeL (by rw [len_takeL (by omega)]; omega)]
  have g1 : ∀ i, i < n → nth (bothL cs ms n m) i = nth cs i := fun i hi => by
    unfold bothL
    rw [nth_app (by omega), nth_take hi, nth_take hi]
  have g2 : ∀ i, i < m → nth (bothL cs ms n m) (n + i) = nth ms i := fun i hi => by
    unfold bothL
    have := nth_app2 (a := takeL (takeL cs 0 n) 0 n) (b := takeL ms 0 m) (i := i)
    rw [h1] at this
    rw [this, nth_take hi]
  have key : ∀ i, i < n + m → ∃ x, nth (bothL cs ms n m) i = some (.int .u8 x) ∧ 0 ≤ x ∧ x < 256 := fun i hi => by
    rcases Nat.lt_or_ge i n with h | h
    · obtain ⟨a, b, c⟩ := bB hb i h
      exact ⟨_, by rw [g1 i h]; exact a, b, c⟩
    · obtain ⟨a, b, c⟩ := bB hm (i - n) (by omega)
      refine ⟨_, ?_, b, c⟩
      rw [show i = n + (i - n) by omega, g2 _ (by omega)]
      rw [show n + (i - n) - n = i - n by omega]
      exact a
  refine ⟨⟨?_, fun i hi => ?_, fun i hi => ?_, fun i hi => ?_, hs⟩, fun i hi => byteAt_congr (g1 i hi)⟩
  · unfold bothL
    rw [flatL_append, flat_takeL (flat_takeL hb.flat), flat_takeL hm.flat]; rfl
  · obtain ⟨x, h, _, _⟩ := key i hi
    rw [Nat.zero_add, byteAt_of h]; exact h
  · obtain ⟨x, h, h0, _⟩ := key i hi
    rw [Nat.zero_add, byteAt_of h]; exact h0
  · obtain ⟨x, h, _, h1⟩ := key i hi
    rw [Nat.zero_add, byteAt_of h]; exact h1
theorem pack_pos {cs : List Value} {n : Nat} (he : (parseF cs n).err = 0) : 0 < n := by
  rcases Nat.eq_zero_or_pos n with h | h
  · subst h
    exact absurd (show (8 : Int) = 0 from he) (by decide)
  · exact h
end Go.Proofs.YtnfijnioclcnmaaDoor
