/- IP: a packet with one less to live: each round goes through. -/
import Derived.Test.YtnfijnioclcnmaaDoorPrIpW
namespace Go.Proofs.YtnfijnioclcnmaaDoor
open Go Go.RowKit Go.Ev

theorem w8_in {y : Int} (h0 : 0 ≤ y) (h1 : y < 256) : W8 y = y := by
  unfold W8 IntKind.wrap
  simp only [IntKind.signed, IntKind.bits, Bool.false_and, Bool.false_eq_true, if_false]
  have : (2 : Int) ^ 8 = 256 := by decide
  rw [this]; omega
theorem w8_mod (y : Int) : W8 y = y % 256 := by
  unfold W8 IntKind.wrap
  simp only [IntKind.signed, IntKind.bits, Bool.false_and, Bool.false_eq_true, if_false]
  rfl
/-- What the beginning of a round asks. -/
theorem go_all {r : List Value} {q : Nat} {p : PF} {i : Int} (h : Pk r q p i) (hi : 2 ≤ i) {v6 : Bool} (hv : ((parseF r q).ver == 6) = v6) : All (goP r q i v6) ∧ ∃ L : Nat, (parseF r q).len = (L : Int) ∧ 20 ≤ L ∧ L ≤ q ∧ lenT r q = L ∧ trimL r q = takeL r 0 L ∧ Bytes (takeL r 0 L) 0 L ∧ (takeL r 0 L).length = L := by
  obtain ⟨L, hl, h20, hLq, _⟩ := parse_cut h.bytes h.err
  obtain ⟨t1, t2, t3⟩ := trim_all (cs := r) (n := q) h.bytes h20 hLq h.err hl
  have hlq := bytes_len h.bytes
  refine ⟨?_, L, hl, h20, hLq, t2, t3, take_bytes h.bytes hLq, len_takeL (by omega)⟩
  unfold goP parsedP
  exact All.cons (by simpa using hi) (All.append (All.cons rfl (All.cons rfl (All.cons (Nat.le_refl q) (All.cons h.bytes All.nil)))) (All.cons (by rw [h.err]; rfl) (All.cons (by rw [h.ttl]; simp; omega) (All.append t1 (All.cons hv All.nil)))))
/-- What its end asks. -/
theorem end_all {d : List Value} {l : Nat} {p : PF} {i : Int} (h : Pk d l p (i - 1)) (hi : 2 ≤ i) (hi2 : i ≤ 255) : All (endP p d l i) := by
  unfold endP parsedP
  refine All.append (All.cons rfl (All.cons rfl (All.cons (Nat.le_refl l) (All.cons h.bytes All.nil)))) (All.cons (by rw [h.err]; rfl) (All.cons (wrap_in (by omega) (by omega)) (All.cons (by rw [h.ttl]; simp) (All.cons ?_ (All.cons (wrap_in (by omega) (by omega)) All.nil)))))
  exact PF.with_ttl h.c0 p.ttl
/-- A round for version 6. -/
theorem go6_all {r : List Value} {q : Nat} {p : PF} {i : Int} (h : Pk r q p i) (hi : 2 ≤ i) (hv : (parseF r q).ver = 6) : i ≤ 255 ∧ All (goP r q i true ++ (go6P r q (i - 1) ++ endP p (row6 r q (i - 1)) (lenT r q) i)) ∧ Pk (row6 r q (i - 1)) (lenT r q) p (i - 1) := by
  obtain ⟨hgo, L, hl, h20, hLq, e1, e2, hT, hTl⟩ := go_all h hi (v6 := true) (by rw [hv]; rfl)
  obtain ⟨h1, h16, hz, hlen, httl, h40, hle⟩ := parse6 h.bytes h.err hv
  have hL40 : 40 ≤ L := by omega
  have b7 : byteAt r 7 = i := by rw [← httl, h.ttl]
  have hb7 := (bB h.bytes 7 (by omega)).2
  have hb7' : 0 ≤ byteAt r 7 ∧ byteAt r 7 < 256 := hb7
  have i255 : i ≤ 255 := by omega
  have hT7 : byteAt (takeL r 0 L) 7 = i := by rw [byteAt_congr (nth_take (by omega))]; exact b7
  obtain ⟨u1, u2, u3⟩ := bytes_upd hT (k := 7) (y := i - 1) (by omega) (by omega) (by omega)
  have er : row6 r q (i - 1) = upd (takeL r 0 L) 7 (.int .u8 (i - 1)) := by unfold row6; rw [e2]
  have hpk : Pk (row6 r q (i - 1)) (lenT r q) p (i - 1) := by
    rw [er, e1]
    obtain ⟨q1, q2, q3, q4, q5⟩ := turn6 (cs := r) (rs := upd (takeL r 0 L) 7 (.int .u8 (i - 1))) (n := q) (k := L) (L := L) h.bytes h1 h16 hz (by rw [← hlen]; exact hl) (Nat.le_refl L) (fun j hj => by
      rw [u3 j hj.2, byteAt_congr (nth_take hj.1)])
    exact ⟨u1, q1, q5.trans h.c0, by rw [q4, u2]⟩
  refine ⟨i255, All.append hgo (All.append ?_ (end_all hpk hi i255)), hpk⟩
  unfold go6P
  rw [e1, e2]
  have a7 := (bB hT 7 (by omega)).1
  refine All.cons ⟨by omega, by omega⟩ (All.cons a7 (All.cons ?_ (All.cons ⟨by omega, by omega⟩ (All.cons (by omega) (All.cons ⟨Nat.le_refl 0, by omega⟩ All.nil)))))
  rw [hT7]
  exact w8_in (by omega) (by omega)
theorem ho_zero (r : List Value) (q : Nat) : ho r q = 0 := by unfold ho; cases decide ((parseF r q).hdr.toNat = 0) <;> rfl
/-- A round for version 4. -/
theorem go4_all {r : List Value} {q : Nat} {p : PF} {i : Int} (h : Pk r q p i) (hi : 2 ≤ i) (hv : (parseF r q).ver = 4) : i ≤ 255 ∧ All (goP r q i false ++ (go4P r q (i - 1) ++ endP p (row4 r q (i - 1)) (lenT r q) i)) ∧ Pk (row4 r q (i - 1)) (lenT r q) p (i - 1) := by
  obtain ⟨hgo, L, hlL, h20, hLq, e1, e2, hT, hTl⟩ := go_all h hi (v6 := false) (by rw [hv]; rfl)
  obtain ⟨h1, h4, hg, hhdr, hlen⟩ := parse4 h.err hv
  have httl := parse4ttl h.err hv
  have hg' := hg
  simp only [isBad4, Bool.or_eq_false_iff, decide_eq_false_iff_not] at hg'
  obtain ⟨⟨⟨⟨⟨⟨g1, g2⟩, g3⟩, g4⟩, g5⟩, g6⟩, g7⟩ := hg'
  have hB0 := (bB h.bytes 0 (by omega)).2
  have hH : hdrV r = 4 * (B r 0 % 16) := rfl
  have b8 : byteAt r 8 = i := by rw [← h.ttl, httl]; rfl
  have hb8 : 0 ≤ byteAt r 8 ∧ byteAt r 8 < 256 := (bB h.bytes 8 (by omega)).2
  have i255 : i ≤ 255 := by omega
  have hT8 : byteAt (takeL r 0 L) 8 = i := by rw [byteAt_congr (nth_take (by omega))]; exact b8
  have eho := ho_zero r q
  have ehl : hl r q = (hdrV r).toNat := by unfold hl; rw [hhdr]; omega
  -- the rows
  obtain ⟨a1, a2, a3⟩ := bytes_upd hT (k := 8) (y := i - 1) (by omega) (by omega) (by omega)
  have erA : rowA r q (i - 1) = upd (takeL r 0 L) 8 (.int .u8 (i - 1)) := by unfold rowA; rw [e2]
  rw [← erA] at a1 a2 a3
  obtain ⟨z1, z2, z3⟩ := bytes_upd a1 (k := 10) (y := 0) (by omega) (by omega) (by omega)
  obtain ⟨o1, o2, o3⟩ := bytes_upd z1 (k := 11) (y := 0) (by omega) (by omega) (by omega)
  have er0 : row0 r q (i - 1) = upd (upd (rowA r q (i - 1)) 10 (.int .u8 0)) 11 (.int .u8 0) := by unfold row0; rw [eho]
  rw [← er0] at o1 o2 o3
  have esum : sum0 r q (i - 1) = sumV (row0 r q (i - 1)) 0 (hdrV r).toNat := by unfold sum0; rw [eho, ehl]
  have hH0 : Bytes (row0 r q (i - 1)) 0 (hdrV r).toNat := bsub o1 (by omega)
  have hsb := sumK_bounds hH0 ((hdrV r).toNat / 2) (by omega)
  have hsv : sumV (row0 r q (i - 1)) 0 (hdrV r).toNat = 65535 - sumK (row0 r q (i - 1)) 0 ((hdrV r).toNat / 2) := by
    unfold sumV sumOut
    rw [if_neg (by omega)]
  have s01 : 0 ≤ sum0 r q (i - 1) ∧ sum0 r q (i - 1) ≤ 65535 := by omega
  obtain ⟨x1, x2, x3⟩ := bytes_upd o1 (k := 10) (y := sum0 r q (i - 1) / 256) (by omega) (by omega) (by omega)
  obtain ⟨y1, y2, y3⟩ := bytes_upd x1 (k := 11) (y := sum0 r q (i - 1) % 256) (by omega) (by omega) (by omega)
  have er4 : row4 r q (i - 1) = upd (upd (row0 r q (i - 1)) 10 (.int .u8 (sum0 r q (i - 1) / 256))) 11 (.int .u8 (sum0 r q (i - 1) % 256)) := by unfold row4; rw [eho]
  rw [← er4] at y1 y2 y3
  have f10 : byteAt (row4 r q (i - 1)) 10 = sum0 r q (i - 1) / 256 := by rw [y3 10 (by omega), x2]
  have f0 : ∀ j, j ≠ 10 → j ≠ 11 → byteAt (row4 r q (i - 1)) j = byteAt (row0 r q (i - 1)) j := fun j hj hj' => by rw [y3 j hj', x3 j hj]
  have fA : ∀ j, j ≠ 10 → j ≠ 11 → byteAt (row0 r q (i - 1)) j = byteAt (rowA r q (i - 1)) j := fun j hj hj' => by rw [o3 j hj', z3 j hj]
  have c10 : byteAt (row0 r q (i - 1)) 10 = 0 := by rw [o3 10 (by omega), z2]
  have hH4 : Bytes (row4 r q (i - 1)) 0 (hdrV r).toNat := bsub y1 (by omega)
  obtain ⟨_, _, hmend⟩ := sum_mended hH0 hH4 (by omega) (by omega) c10 o2 (by rw [f10, esum]) (by rw [y2, esum]) f0
  have hpk : Pk (row4 r q (i - 1)) (lenT r q) p (i - 1) := by
    rw [e1]
    have ht := turn4 (cs := r) (rs := row4 r q (i - 1)) (n := q) (k := L) (L := L) h.bytes h1 h4 hg (by rw [← hlen]; exact hlL) (Nat.le_refl L) (fun j hj => by
      obtain ⟨j1, j2, j3, j4⟩ := hj
      rw [f0 j j3 j4, fA j j3 j4, a3 j j2, byteAt_congr (nth_take j1)]) hmend
    refine ⟨y1, by rw [ht]; exact h.err, ?_, ?_⟩
    · rw [ht]; exact h.c0
    · rw [ht]
      show byteAt (row4 r q (i - 1)) 8 = i - 1
      rw [f0 8 (by omega) (by omega), fA 8 (by omega) (by omega), a2]
  refine ⟨i255, All.append hgo (All.append ?_ (end_all hpk hi i255)), hpk⟩
  have a8 := (bB hT 8 (by omega)).1
  have l1 : (rowA r q (i - 1)).length = L := by rw [erA, upd_len, hTl]
  have l0 : (row0 r q (i - 1)).length = L := by rw [er0, upd_len, upd_len, l1]
  unfold go4P ixP atP
  rw [e1, e2, eho, ehl, hhdr]
  refine All.append (All.cons ⟨by omega, by omega⟩ (All.cons a8 (All.cons ?_ (All.cons ⟨by omega, by omega⟩ All.nil)))) (All.append (All.cons (by omega) (All.cons ⟨Nat.le_refl 0, by omega⟩ All.nil)) (All.append
    (All.cons (Nat.le_refl L) (All.cons ⟨by omega, by omega⟩ (All.cons ⟨by omega, by omega⟩ (All.cons trivial All.nil)))) (All.append (All.cons ⟨by omega, by omega⟩ All.nil) (All.append (All.cons (by omega) (All.cons ⟨Nat.le_refl 0, by omega⟩ All.nil))
    (All.append (All.cons ⟨by omega, by omega⟩ All.nil) (All.append (All.cons (by rw [upd_len]; omega) (All.cons ⟨Nat.le_refl 0, by omega⟩ All.nil)) (All.append (All.cons hH0 (All.cons (shrE _ 8) (All.cons (w8_in (by omega) (by omega)) (All.cons (w8_mod _) All.nil))))
    (All.append (All.cons ⟨by omega, by omega⟩ All.nil) (All.append (All.cons (by omega) (All.cons ⟨Nat.le_refl 0, by omega⟩ All.nil)) (All.append (All.cons ⟨by omega, by omega⟩ All.nil) (All.cons (by rw [upd_len]; omega) (All.cons ⟨Nat.le_refl 0, by omega⟩ All.nil))))))))))))
  rw [hT8]
  exact w8_in (by omega) (by omega)
end Go.Proofs.YtnfijnioclcnmaaDoor
