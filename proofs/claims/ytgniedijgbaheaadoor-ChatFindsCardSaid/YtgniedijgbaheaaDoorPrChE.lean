/- Chat: a text is found as soon as it has come: what is asked on each way. -/
import Derived.Test.YtgniedijgbaheaaDoorPrChD
namespace Go.Proofs.YtgniedijgbaheaaDoor
open Go Go.RowKit Go.Ev
theorem All.append {ps qs : List Prop} (h : All ps) (h' : All qs) : All (ps ++ qs) := fun p hp => (List.mem_append.1 hp).elim (h p) (h' p)
theorem All.nil : All [] := fun _ h => (by cases h)
theorem All.cons {p : Prop} {ps : List Prop} (h : p) (h' : All ps) : All (p :: ps) := fun q hq => by
  rcases List.mem_cons.1 hq with rfl | hq
  · exact h
  · exact h' q hq
theorem flat_u8 : ∀ {l : List Value}, l.all isU8 = true → flatL l = true
  | [], _ => rfl
  | v :: l, h => by
    simp only [List.all_cons, Bool.and_eq_true] at h
    show (flatV v && flatL l) = true
    rw [flat_u8 h.2, Bool.and_true]
    cases v <;> first | rfl | cases h.1
theorem take_u8 {l : List Value} (h : l.all isU8 = true) (o k : Nat) : (takeL l o k).all isU8 = true := by
  rw [List.all_eq_true] at h ⊢
  intro v hv
  unfold takeL at hv
  exact h v (List.mem_of_mem_drop (List.mem_of_mem_take hv))
theorem u8_at {cs : List Value} (h : cs.all isU8 = true) {k : Nat} (hk : k < cs.length) : nth cs k = some (.int .u8 (byteAt cs k)) := by
  have hv : isU8 cs[k] = true := List.all_eq_true.1 h _ (List.getElem_mem hk)
  have hn : nth cs k = some cs[k] := by rw [nth_eq, List.getElem?_eq_getElem hk]
  unfold byteAt
  rw [hn]
  cases hc : cs[k] with
  | int kk x =>
    rw [hc] at hv
    cases kk <;> first | rfl | cases hv
  | _ => rw [hc] at hv; cases hv
theorem take_one {cs : List Value} (h : cs.all isU8 = true) {k : Nat} (hk : k < cs.length) : takeL cs k 1 = [.int .u8 (byteAt cs k)] := by
  have e := u8_at h hk
  rw [nth_eq, List.getElem?_eq_getElem hk] at e
  unfold takeL
  rw [List.drop_eq_getElem_cons hk, Option.some.inj e]
  rfl
theorem take_next {cs : List Value} (h : cs.all isU8 = true) {k : Nat} (hk : k < cs.length) : takeL cs 0 k ++ [.int .u8 (byteAt cs k)] = takeL cs 0 (k + 1) := by
  rw [← take_one h hk]
  unfold takeL
  rw [List.drop_zero, List.take_add]
theorem take_whole {l : List Value} {k : Nat} (h : l.length = k) : takeL l 0 k = l := by
  unfold takeL
  rw [List.drop_zero, ← h, List.take_length]
def gK (cs : List Value) (k : Nat) : ByteArray := textOf (takeL cs 0 k)
def rK (cs : List Value) (s : ByteArray) (k : Nat) : ByteArray := (gK cs k).extract (k - s.size) k
def geK (s : ByteArray) (k : Nat) : Bool := decide (s.size ≤ k)
def eK (cs : List Value) (s : ByteArray) (k : Nat) : Bool := (rK cs s k).toList == s.toList
theorem gK_size {cs : List Value} (h : cs.all isU8 = true) {k : Nat} (hk : k ≤ cs.length) : (gK cs k).size = k := by
  unfold gK
  rw [text_size (take_u8 h 0 k), len_takeL (by omega)]
theorem gK_next {cs : List Value} (h : cs.all isU8 = true) {k : Nat} (hk : k < cs.length) : gK cs k ++ textOf (takeL cs k 1) = gK cs (k + 1) := by
  unfold gK
  rw [text_append (take_u8 h 0 k) (take_u8 h k 1), take_one h hk, take_next h hk]
theorem oA_in {c k : Nat} (h : k < c) : oA c (k : Int) = k := by
  unfold oA
  rw [Int.toNat_natCast, decide_eq_false (by omega)]
  simp
theorem wrap_at {x : Int} (h0 : -9223372036854775808 ≤ x) (h1 : x < 9223372036854775808) : W64 x = x := wrap_in h0 h1
theorem cut_all {n c k : Nat} (hk : k < n) (h3 : k < 300) (hc : n ≤ c) : All (cutP n c (k : Int)) := by
  unfold cutP
  exact All.cons (wrap_at (by omega) (by omega)) (All.cons (by omega) (All.cons hc (All.cons trivial (All.cons ⟨by omega, by omega⟩ (All.cons ⟨by omega, by omega⟩ All.nil)))))
theorem feed_all {n c k : Nat} {x : Int} (hk : k < n) (h3 : k < 300) (hc : n ≤ c) (hx : x ≤ 549755813888) : All (feedP n c x (k : Int)) := by
  unfold feedP
  exact All.append (All.cons (by simp; omega) (All.cons (by simp; omega) All.nil)) (All.append (cut_all hk h3 hc) (All.cons (by simp) (All.cons (by simp; omega) All.nil)))
theorem ld_all {cs : List Value} (h : cs.all isU8 = true) {c k : Nat} (hk : k < c) (hl : c ≤ cs.length) : All (ldP cs c (k : Int)) := by
  unfold ldP
  rw [oA_in hk]
  exact All.cons (u8_at h (by omega)) All.nil
theorem got_all {cs : List Value} (h : cs.all isU8 = true) {n c k : Nat} (hk : k < n) (h3 : k < 300) (hc : n ≤ c) (hl : c ≤ cs.length) : All (gotP cs n c (k : Int) (gK cs k) (gK cs (k + 1))) := by
  unfold gotP
  rw [oA_in (by omega)]
  refine All.append (cut_all hk h3 hc) (All.cons (by omega) (All.cons (by omega) (All.cons (take_u8 h k 1) (All.cons ?_ (All.cons (gK_next h (by omega)) All.nil)))))
  rw [gK_size h (by omega), text_size (take_u8 h k 1), len_takeL (by omega)]
  omega
theorem nil_all (b : Int) : All (nilP b) := by
  unfold nilP
  exact All.cons (by omega) (All.cons (by omega) (All.cons (by simp) (All.cons rfl All.nil)))
theorem add_all {d : List Value} {q : Nat} (hd : d.all isU8 = true) (hl : d.length = q) (h0 : 0 < q) (h1 : q < 1000) (b : Int) : All (addP d q b) := by
  unfold addP
  exact All.cons h0 (All.cons (by omega) (All.cons (by omega) (All.cons (by omega) (All.cons (by omega) (All.cons (by simp) (All.cons (all_one (take_u8 hd 0 q)) (All.cons rfl All.nil)))))))
theorem ended_all {cs : List Value} (h : cs.all isU8 = true) {s : ByteArray} (h0 : 0 < s.size) {k : Nat} (h3 : k < 300) (hk : k < cs.length) :
    All (endedP (takeL cs 0 (k + 1)) (k + 1) s (rK cs s (k + 1)) (k : Int) ((k : Int) + 1 - (s.size : Int)) (geK s (k + 1)) (eK cs s (k + 1))) := by
  unfold endedP
  refine All.append (All.cons (by simp; omega) (All.cons (wrap_at (by omega) (by omega)) (All.cons (by omega) (All.cons ?_ All.nil)))) ?_
  · unfold geK
    exact decide_eq_decide.2 (by omega)
  · cases hg : geK s (k + 1) with
    | false => exact All.nil
    | true =>
      have hle : s.size ≤ k + 1 := by unfold geK at hg; simpa using hg
      have hlo : ((k : Int) + 1 - (s.size : Int)).toNat = k + 1 - s.size := by omega
      have hlen : (takeL cs 0 (k + 1)).length = k + 1 := len_takeL (by omega)
      have hu := take_u8 h 0 (k + 1)
      have ho : (0 + bif decide (k + 1 = k + 1 - s.size) then 0 else (k + 1 - s.size) * 1) = k + 1 - s.size := by
        rw [decide_eq_false (by omega)]; simp
      have hm : k + 1 - (k + 1 - s.size) = s.size := by omega
      have hT : textOf (takeL (takeL cs 0 (k + 1)) (k + 1 - s.size) s.size) = rK cs s (k + 1) := by
        rw [text_part hu]
        show (gK cs (k + 1)).extract _ _ = (gK cs (k + 1)).extract _ _
        rw [show k + 1 - s.size + s.size = k + 1 by omega]
      have hTs : (rK cs s (k + 1)).size = s.size := by
        rw [← hT, text_size (take_u8 hu _ _), len_takeL (by omega)]
      rw [hlo, ho, hm, hT, hTs]
      refine All.cons (wrap_at (by omega) (by omega) |>.trans (by omega)) (All.cons (by omega) (All.cons (Nat.le_refl _) (All.cons trivial (All.cons trivial (All.cons ⟨by omega, by omega⟩ (All.cons h0 (All.cons (by omega) (All.cons (take_u8 hu _ _) (All.cons (by simp) (All.cons (by simp; rfl) (All.cons trivial (All.cons ⟨by omega, by omega⟩ (All.cons ?_ (All.cons rfl All.nil))))))))))))))
      refine bytes_ext ?_
      rw [ByteArray.data_extract]
      have : s.size = (rK cs s (k + 1)).data.size := hTs.symm
      rw [this]
      simp
theorem met_all {cs : List Value} (h : cs.all isU8 = true) {s : ByteArray} {k : Nat} (h3 : k < 300) (hk : k < cs.length) :
    All (metP s (gK cs (k + 1)) (rK cs s (k + 1)) (k : Int) (geK s (k + 1)) (eK cs s (k + 1))) := by
  unfold metP
  have hsz : (gK cs (k + 1)).size = k + 1 := gK_size h (by omega)
  rw [hsz]
  refine All.append (All.cons ?_ All.nil) ?_
  · unfold geK
    exact decide_eq_decide.2 (by omega)
  · cases hg : geK s (k + 1) with
    | false => exact All.nil
    | true =>
      have hle : s.size ≤ k + 1 := by unfold geK at hg; simpa using hg
      have hlo : ((k : Int) + 1 - (s.size : Int)).toNat = k + 1 - s.size := by omega
      rw [hlo]
      exact All.cons ((wrap_at (by omega) (by omega)).trans (by omega)) (All.cons trivial (All.cons ⟨by omega, by omega⟩ (All.cons rfl (All.cons rfl All.nil))))
theorem ahead_all {k : Nat} (h3 : k < 300) : All [W64 ((k : Int) + 1) = (k : Int) + 1] := All.cons (wrap_at (by omega) (by omega)) All.nil
end Go.Proofs.YtgniedijgbaheaaDoor
