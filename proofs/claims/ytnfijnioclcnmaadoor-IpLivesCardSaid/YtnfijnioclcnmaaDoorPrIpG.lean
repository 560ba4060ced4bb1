/- IP: a packet as bytes is read: as one call. -/
import Derived.Test.YtnfijnioclcnmaaDoorPrIpF
namespace Go.Proofs.YtnfijnioclcnmaaDoor
open Go Go.RowKit Go.Ev

def carK (icmp offs proto : Int) (m : Nat) : Nat := outc (offs != 0) (proto == 6) (decide ((m : Int) ≥ 20)) (proto == 17) (decide ((m : Int) ≥ 8)) (proto == icmp) (decide ((m : Int) ≥ 4))
def v4PF (cs : List Value) (k : Nat) : PF :=
  { ver := 4, cls := B cs 1, len := lenV cs, hdr := hdrV cs, id := twoV cs 0 4, dont := B cs 6 / 64 % 2 == 1, more := B cs 6 / 32 % 2 == 1, offs := offsV cs, ttl := B cs 8, proto := B cs 9, src := fourV cs 0 12, dst := fourV cs 0 16,
    car := carV k, sp := spV cs (cOff cs) k, dp := dpV cs (cOff cs) k, fl := flV cs (cOff cs) k, ty := tyV cs (cOff cs) k, co := coV cs (cOff cs) k }
theorem v4PF_val (cs : List Value) (k : Nat) : (v4PF cs k).val = .tuple #[v4Fields cs k, .int .i64 0] := rfl
theorem err_val (e : Int) : ({ err := e } : PF).val = noFields e := rfl
def sumH (cs : List Value) : Int := sumV cs 0 (hdrV cs).toNat
theorem sumHdr_eq (cs : List Value) (c : Nat) : sumHdr cs c = sumH cs := by
  unfold sumHdr sumH
  cases decide (c = 0) <;> rfl
def bad4 (cs : List Value) (n : Nat) : Int :=
  v4Err (decide ((n : Int) < 20)) (decide (hdrV cs < 20)) (decide ((n : Int) < hdrV cs)) (decide (lenV cs < hdrV cs)) (decide ((n : Int) < lenV cs)) (sumH cs != 0)
def isBad4 (cs : List Value) (n : Nat) : Bool :=
  decide ((n : Int) < 20) || decide (hdrV cs < 20) || decide ((n : Int) < hdrV cs) || decide (lenV cs < hdrV cs) || decide ((n : Int) < lenV cs) || (sumH cs != 0) || (B cs 6 / 128 == 1)
def parseF (cs : List Value) (n : Nat) : PF :=
  bif decide ((n : Int) < 1) then { err := 8 } else
  bif B cs 0 / 16 == 4 then (bif isBad4 cs n then { err := bad4 cs n } else v4PF cs (carK 1 (offsV cs) (B cs 9) (cLen cs))) else
  bif B cs 0 / 16 == 6 then (bif er6 cs n != 0 then { err := er6 cs n } else v6PF cs n (carK 58 (t6 cs n).offs (t6 cs n).proto (m6 cs n))) else { err := 180 }
theorem bB {cs : List Value} {n : Nat} (hb : Bytes cs 0 n) (k : Nat) (hk : k < n) : nthB cs k ∧ 0 ≤ B cs k ∧ B cs k < 256 := by
  have h1 := hb.at_ k hk; have h2 := hb.lo k hk; have h3 := hb.hi k hk
  rw [Nat.zero_add] at h1 h2 h3
  exact ⟨h1, h2, h3⟩
theorem bsub {cs : List Value} {n : Nat} (hb : Bytes cs 0 n) {o m : Nat} (h : o + m ≤ n) : Bytes cs o m := by
  refine ⟨hb.flat, fun i hi => ?_, fun i hi => ?_, fun i hi => ?_, ?_⟩
  · have := hb.at_ (o + i) (by omega); rw [Nat.zero_add] at this; exact this
  · have := hb.lo (o + i) (by omega); rw [Nat.zero_add] at this; exact this
  · have := hb.hi (o + i) (by omega); rw [Nat.zero_add] at this; exact this
  · have := hb.small; omega
theorem shrE (a : Int) (k : Nat) : a.fdiv (2 ^ k) = a / 2 ^ k := by
  rw [Int.fdiv_eq_ediv_of_nonneg _ (by have := Int.pow_pos (n := (2:Int)) (m := k) (by decide); omega)]
theorem v4A_all {cs : List Value} {n c : Nat} (hb : Bytes cs 0 n) (hc : n ≤ c) (h1 : ¬ (n : Int) < 1) (hv : B cs 0 / 16 = 4) :
    All (v4A cs n c (decide ((n : Int) < 20)) (decide (hdrV cs < 20)) (decide ((n : Int) < hdrV cs)) (decide (lenV cs < hdrV cs)) (decide ((n : Int) < lenV cs)) (sumH cs != 0) (B cs 6 / 128 == 1)) := by
  have hs := hb.small
  obtain ⟨a0, a1, a2⟩ := bB hb 0 (by omega)
  unfold v4A
  refine All.append (All.cons (by simpa using h1) (All.cons ⟨by omega, by omega⟩ (All.cons a0 (All.cons (shrE _ 4) (All.cons (by rw [hv]; exact wrap_in (by omega) (by omega)) (All.cons rfl All.nil)))))) ?_
  cases q1 : decide ((n : Int) < 20) with
  | true => exact All.nil
  | false =>
  have q1' : ¬ (n : Int) < 20 := by simpa using q1
  obtain ⟨l0, l1⟩ := twoV_bounds hb (i := 2) (by omega) (by omega)
  obtain ⟨b0, b1, b2⟩ := bB hb 6 (by omega)
  have hh : hdrV cs = 4 * (B cs 0 % 16) := rfl
  refine All.append (All.cons ⟨by omega, by omega⟩ (All.cons a0 (All.cons (band8_low a1 a2) (All.cons (wrap_in (by omega) (by omega)) (All.cons (wrap_in (by omega) (by omega)) (All.cons rfl (All.cons ⟨hb, by omega, by omega⟩ (All.cons rfl All.nil)))))))) ?_
  cases q2 : decide (hdrV cs < 20) with
  | true => exact All.nil
  | false =>
  refine All.append (All.cons rfl All.nil) ?_
  cases q3 : decide ((n : Int) < hdrV cs) with
  | true => exact All.nil
  | false =>
  refine All.append (All.cons rfl All.nil) ?_
  cases q4 : decide (lenV cs < hdrV cs) with
  | true => exact All.nil
  | false =>
  refine All.append (All.cons rfl All.nil) ?_
  cases q5 : decide ((n : Int) < lenV cs) with
  | true => exact All.nil
  | false =>
  have q2' : ¬ hdrV cs < 20 := by simpa using q2
  have q3' : ¬ (n : Int) < hdrV cs := by simpa using q3
  have e0 : (0 + bif decide (c = 0) then 0 else 0 * 1) = 0 := by cases decide (c = 0) <;> rfl
  refine All.append (All.cons hc (All.cons trivial (All.cons ⟨by omega, by omega⟩ (All.cons trivial (All.cons (by rw [e0]; exact bsub hb (by omega)) (All.cons (by rw [sumHdr_eq]) All.nil)))))) ?_
  cases q6 : (sumH cs != 0) with
  | true => exact All.nil
  | false => exact All.cons ⟨by omega, by omega⟩ (All.cons b0 (All.cons (shrE _ 7) (All.cons rfl All.nil)))
theorem carQ_all {cs : List Value} {n : Nat} (icmp offs proto : Int) {o m : Nat} (hb : Bytes cs 0 n) (h : o + m ≤ n) :
    All (carQ cs icmp offs proto o m (offs != 0) (proto == 6) (decide ((m : Int) ≥ 20)) (proto == 17) (decide ((m : Int) ≥ 8)) (proto == icmp) (decide ((m : Int) ≥ 4))) := by
  have hs := hb.small
  unfold carQ
  refine All.append (All.cons rfl All.nil) ?_
  cases (offs != 0) with
  | true => exact All.nil
  | false =>
  refine All.append (All.cons rfl ?_) ?_
  · cases (proto == 6)
    · exact All.nil
    · exact All.cons rfl All.nil
  cases q1 : ((proto == 6) && decide ((m : Int) ≥ 20)) with
  | true =>
    have hm : (m : Int) ≥ 20 := by simp only [Bool.and_eq_true, decide_eq_true_eq] at q1; exact q1.2
    obtain ⟨a0, a1, a2⟩ := bB hb (o + 13 * 1) (by omega)
    exact All.cons ⟨bsub hb h, by omega, by omega⟩ (All.cons ⟨bsub hb h, by omega, by omega⟩ (All.cons ⟨by omega, by omega⟩ (All.cons a0 (All.cons (wrap_in (by omega) (by omega)) All.nil))))
  | false =>
  refine All.append (All.cons rfl ?_) ?_
  · cases (proto == 17)
    · exact All.nil
    · exact All.cons rfl All.nil
  cases q2 : ((proto == 17) && decide ((m : Int) ≥ 8)) with
  | true =>
    have hm : (m : Int) ≥ 8 := by simp only [Bool.and_eq_true, decide_eq_true_eq] at q2; exact q2.2
    exact All.cons ⟨bsub hb h, by omega, by omega⟩ (All.cons ⟨bsub hb h, by omega, by omega⟩ All.nil)
  | false =>
  refine All.append (All.cons rfl ?_) ?_
  · cases (proto == icmp)
    · exact All.nil
    · exact All.cons rfl All.nil
  cases q3 : ((proto == icmp) && decide ((m : Int) ≥ 4)) with
  | true =>
    have hm : (m : Int) ≥ 4 := by simp only [Bool.and_eq_true, decide_eq_true_eq] at q3; exact q3.2
    obtain ⟨a0, a1, a2⟩ := bB hb (o + 0 * 1) (by omega)
    obtain ⟨b0, b1, b2⟩ := bB hb (o + 1 * 1) (by omega)
    exact All.cons ⟨by omega, by omega⟩ (All.cons a0 (All.cons (wrap_in (by omega) (by omega)) (All.cons ⟨by omega, by omega⟩ (All.cons b0 (All.cons (wrap_in (by omega) (by omega)) All.nil)))))
  | false => exact All.nil
theorem v4B_all {cs : List Value} {n c : Nat} (hb : Bytes cs 0 n) (hc : n ≤ c) (h1 : ¬ (n : Int) < 20) (h2 : ¬ hdrV cs < 20) (h3 : ¬ (n : Int) < lenV cs) (h4 : ¬ lenV cs < hdrV cs) : All (v4B cs n c) := by
  have hs := hb.small
  obtain ⟨a0, a1, a2⟩ := bB hb 1 (by omega)
  obtain ⟨b0, b1, b2⟩ := bB hb 6 (by omega)
  obtain ⟨c0, c1, c2⟩ := bB hb 8 (by omega)
  obtain ⟨d0, d1, d2⟩ := bB hb 9 (by omega)
  obtain ⟨l0, l1⟩ := twoV_bounds hb (i := 6) (by omega) (by omega)
  have hh : offsV cs = 8 * (twoV cs 0 6 % 8192) := rfl
  unfold v4B
  exact All.cons ⟨by omega, by omega⟩ (All.cons a0 (All.cons (wrap_in (by omega) (by omega)) (All.cons ⟨hb, by omega, by omega⟩ (All.cons ⟨by omega, by omega⟩ (All.cons b0 (All.cons (shrE _ 6) (All.cons (band8_bit (by omega) (by omega)) (All.cons ⟨by omega, by omega⟩ (All.cons b0 (All.cons (shrE _ 5) (All.cons (band8_bit (by omega) (by omega))
    (All.cons ⟨hb, by omega, by omega⟩ (All.cons (band_mask 13 (by decide) l0 (by omega)) (All.cons (wrap_in (by omega) (by omega)) (All.cons ⟨by omega, by omega⟩ (All.cons c0 (All.cons (wrap_in (by omega) (by omega)) (All.cons ⟨by omega, by omega⟩ (All.cons d0 (All.cons (wrap_in (by omega) (by omega)) (All.cons ⟨hb, by omega, by omega⟩ (All.cons ⟨hb, by omega, by omega⟩
    (All.cons hc (All.cons ⟨by omega, by omega⟩ (All.cons ⟨by omega, by omega⟩ (All.cons ⟨by omega, by omega⟩ All.nil))))))))))))))))))))))))))

/-! ### version 6 -/

theorem run6_in {cs : List Value} {n : Nat} {L : Int} (hb : Bytes cs 0 n) (hL : L ≤ (n : Int)) : ∀ (k : Nat) (s : S6), I6 cs n L s → s.nn < 9 → (run6 cs L k s).2 = 0 → I6 cs n L (run6 cs L k s).1
  | 0, s, _, _, h => by unfold run6 at h; exact absurd (show (180 : Int) = 0 from h) (by decide)
  | k + 1, s, hI, hn, h => by
    unfold run6 at h ⊢
    cases hk : ext6 s.proto with
    | false => exact hI
    | true =>
      rw [hk] at h
      simp only [cond_true] at h ⊢
      cases he : (decide (s.nn ≥ 8) || decide (L - s.at_ < 8) || decide (L - s.at_ < szV cs s (s.proto == 44))) with
      | true => rw [he] at h; exact absurd h (show (180 : Int) ≠ 0 by decide)
      | false =>
        rw [he] at h
        simp only [cond_false] at h ⊢
        simp only [Bool.or_eq_false_iff, decide_eq_false_iff_not] at he
        obtain ⟨⟨e1, e2⟩, e3⟩ := he
        obtain ⟨hI', hnn⟩ := next6 hb hI hL (by omega) e3 (by omega)
        exact run6_in hb hL k _ hI' (by have := hI'.n1; omega) h
/-- A packet of version 6 that is read: where its data lie. -/
theorem ok6 {cs : List Value} {n : Nat} (hb : Bytes cs 0 n) (h : er6 cs n = 0) :
    ¬ (n : Int) < 40 ∧ ¬ (n : Int) < len6V cs ∧ (k6 cs n).len = len6V cs ∧ hd6 cs n = (t6 cs n).at_ ∧ 40 ≤ hd6 cs n ∧ hd6 cs n ≤ (k6 cs n).len := by
  unfold er6 at h
  cases hbad : bad6 cs n with
  | true => rw [hbad] at h; exact absurd h (show (8 : Int) ≠ 0 by decide)
  | false =>
    rw [hbad] at h
    have h' : (res6 cs).2 = 0 := h
    have hd := hbad
    simp only [bad6, Bool.or_eq_false_iff, decide_eq_false_iff_not] at hd
    obtain ⟨d1, d2⟩ := hd
    have hs := hb.small
    obtain ⟨a0, a1⟩ := twoV_bounds hb (i := 4) (by omega) (by omega)
    obtain ⟨b0, b1, b2⟩ := bB hb 6 (by omega)
    have hL0 : 40 ≤ len6V cs := by show 40 ≤ 40 + twoV cs 0 4; omega
    have hI : I6 cs n (len6V cs) (s6 (byteAt cs)) := ⟨Int.le_refl 40, hL0, Int.le_refl 0, (show (0 : Int) ≤ 8 by decide), b1, b2⟩
    have hr := run6_in hb (L := len6V cs) (by omega) (9 - (s6 (byteAt cs)).nn.toNat) (s6 (byteAt cs)) hI (show (0 : Int) < 9 by decide) h'
    have e1 : (k6 cs n).len = len6V cs := by simp [k6, d1, d2]; rfl
    have e2 : hd6 cs n = (res6 cs).1.at_ := by simp [hd6, hbad, hdr6, h']
    have e3 : t6 cs n = (res6 cs).1 := by simp [t6, hbad]
    refine ⟨d1, d2, e1, by rw [e2, e3], ?_, ?_⟩
    · rw [e2]; exact hr.lo
    · rw [e2, e1]; exact hr.hi
theorem verP_all {cs : List Value} {n : Nat} (hb : Bytes cs 0 n) (h1 : ¬ (n : Int) < 1) {v : Int} (hv : B cs 0 / 16 = v) : All (verP cs n v) := by
  have hs := hb.small
  obtain ⟨a0, a1, a2⟩ := bB hb 0 (by omega)
  unfold verP
  exact All.cons (by simpa using h1) (All.cons ⟨by omega, by omega⟩ (All.cons a0 (All.cons (shrE _ 4) (All.cons (by rw [← hv]; exact wrap_in (by omega) (by omega)) All.nil))))
theorem v6P_all {cs : List Value} {n c : Nat} (hb : Bytes cs 0 n) (hc : n ≤ c) : All (v6P cs n c) := by
  unfold v6P
  exact All.cons rfl (All.cons rfl (All.cons rfl (All.cons hc (All.cons hb All.nil))))
def parseFn : RowFn := fun front cs e off n c rest => match front, rest with
  | [], [] => some ((parseF cs n).val, [e = 5, off = 0, n ≤ c, Bytes cs 0 n])
  | _, _ => none
theorem parse_ok : RowOk Tryd.prog 7 parseFn := by
  intro front cs e lo hi ex st off n c rest v pre hfn hp h id hg
  unfold parseFn at hfn
  split at hfn
  · cases hfn
    have he : e = 5 := hp _ (by simp)
    have ho : off = 0 := hp _ (by simp)
    have hc : n ≤ c := hp _ (by simp)
    have hb : Bytes cs 0 n := hp _ (by simp)
    subst he ho
    have hs := hb.small
    unfold parseF
    cases q1 : decide ((n : Int) < 1) with
    | true => exact row_tup (front := []) zerosFlat_here mixed_here (rowHints_ok .nil PR_ok) (p_empty cs lo hi ex st n c) (All.cons q1 All.nil) rfl rfl hb.flat hg
    | false =>
    have h1 : ¬ (n : Int) < 1 := by simpa using q1
    cases q4 : (B cs 0 / 16 == 4) with
    | true =>
      have hv : B cs 0 / 16 = 4 := by simpa using q4
      have hA := v4A_all hb hc h1 hv
      cases qb : isBad4 cs n with
      | true =>
        exact row_tup (front := []) zerosFlat_here mixed_here (rowHints_ok .nil (.cons sum_ok (.cons two_ok (.cons four_ok .nil)))) (p_v4err cs lo hi ex st n c _ _ _ _ _ _ _ qb) hA rfl rfl hb.flat hg
      | false =>
        simp only [isBad4, Bool.or_eq_false_iff] at qb
        obtain ⟨⟨⟨⟨⟨⟨b1, b2⟩, b3⟩, b4⟩, b5⟩, b6⟩, b7⟩ := qb
        rw [b1, b2, b3, b4, b5, b6, b7] at hA
        simp only [decide_eq_false_iff_not] at b1 b2 b3 b4 b5
        have hB := v4B_all hb hc b1 b2 b5 b4
        have eo : cOff cs + cLen cs ≤ n := by
          unfold cOff cLen
          cases qe : decide ((lenV cs).toNat = (hdrV cs).toNat) with
          | true => show 0 + 0 + _ ≤ _; omega
          | false => show 0 + (hdrV cs).toNat * 1 + _ ≤ _; omega
        have hC := carQ_all (cs := cs) (n := n) 1 (offsV cs) (B cs 9) hb eo
        exact row_tup (front := []) zerosFlat_here mixed_here (rowHints_ok .nil (.cons sum_ok (.cons two_ok (.cons four_ok .nil)))) (p_v4ok cs lo hi ex st n c _ _ _ _ _ _ _) (All.append hA (All.append hB hC)) rfl rfl hb.flat hg
    | false =>
    cases q6 : (B cs 0 / 16 == 6) with
    | true =>
      have hv : B cs 0 / 16 = 6 := by simpa using q6
      have hV := verP_all hb h1 hv
      have h6 := v6P_all hb hc
      cases qe : (er6 cs n != 0) with
      | true => exact row_tup (front := []) zerosFlat_here mixed_here (rowHints_ok .nil PR_ok) (p_v6err cs lo hi ex st n c) (All.append hV (All.append h6 (All.cons qe All.nil))) rfl rfl hb.flat hg
      | false =>
        have hz : er6 cs n = 0 := by simpa using qe
        obtain ⟨g1, g2, g3, g4, g5, g6⟩ := ok6 hb hz
        have hS : All (sliceP6 cs n c) := by
          unfold sliceP6
          exact All.cons hc (All.cons ⟨by omega, by omega⟩ (All.cons ⟨by omega, by omega⟩ (All.cons ⟨by omega, by omega⟩ All.nil)))
        have eo : o6 cs n + m6 cs n ≤ n := by
          unfold o6 m6
          cases qe : decide ((k6 cs n).len.toNat = (hd6 cs n).toNat) with
          | true => show 0 + 0 + _ ≤ _; omega
          | false => show 0 + (hd6 cs n).toNat * 1 + _ ≤ _; omega
        have hC := carQ_all (cs := cs) (n := n) 58 (t6 cs n).offs (t6 cs n).proto hb eo
        exact row_tup (front := []) zerosFlat_here mixed_here (rowHints_ok .nil PR_ok) (p_v6ok cs lo hi ex st n c _ _ _ _ _ _ _) (All.append hV (All.append h6 (All.cons qe (All.append hS hC)))) rfl rfl hb.flat hg
    | false =>
      exact row_tup (front := []) zerosFlat_here mixed_here (rowHints_ok .nil PR_ok) (p_none cs lo hi ex st n c) (All.append (verP_all hb h1 rfl) (All.cons q4 (All.cons q6 All.nil))) rfl rfl hb.flat hg
  · cases hfn
end Go.Proofs.YtnfijnioclcnmaaDoor
