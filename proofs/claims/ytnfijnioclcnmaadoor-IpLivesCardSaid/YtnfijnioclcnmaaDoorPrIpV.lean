/- IP: what is read, where one byte of the header counts down. -/
import Derived.Test.YtnfijnioclcnmaaDoorPrIpU
namespace Go.Proofs.YtnfijnioclcnmaaDoor
open Go Go.RowKit Go.Ev

def PF.c0 (p : PF) : List Value := ({ p with ttl := 0 } : PF).cells
theorem PF.with_ttl {p q : PF} (h : p.c0 = q.c0) (t : Int) : ({ p with ttl := t } : PF).cells = ({ q with ttl := t } : PF).cells := by
  have e : ∀ x : PF, ({ x with ttl := t } : PF).cells = upd x.c0 9 (.int .i64 t) := fun x => rfl
  rw [e, e, h]
def SameX (S : Nat → Prop) (cs rs : List Value) : Prop := ∀ i, S i → byteAt rs i = byteAt cs i
section
variable {S : Nat → Prop} {cs rs : List Value} (E : SameX S cs rs)
include E
theorem sx_two {o : Nat} {i : Int} (h0 : 0 ≤ i) (a : S (o + i.toNat)) (b : S (o + i.toNat + 1)) : twoV rs o i = twoV cs o i := by
  unfold twoV
  have e1 : o + i.toNat * 1 = o + i.toNat := by omega
  have e2 : o + (i + 1).toNat * 1 = o + i.toNat + 1 := by omega
  rw [e1, e2, E _ a, E _ b]
theorem sx_byI {i : Int} (a : S i.toNat) : byI rs i = byI cs i := by
  unfold byI
  have e1 : 0 + i.toNat * 1 = i.toNat := by omega
  show byteAt rs (0 + i.toNat * 1) = byteAt cs (0 + i.toNat * 1)
  rw [e1]
  exact E _ a
theorem sx_four {k : Nat} (h : ∀ j, j < 4 → S (k + j)) : fourV rs 0 (k : Int) = fourV cs 0 (k : Int) := by
  unfold fourV
  have h0 := h 0 (by omega); have h1 := h 1 (by omega); have h2 := h 2 (by omega); have h3 := h 3 (by omega)
  have e1 : 0 + ((k : Int)).toNat = k := by omega
  have e2 : 0 + ((k : Int) + 2).toNat = k + 2 := by omega
  rw [sx_two E (by omega) (by rw [e1]; exact h0) (by rw [e1]; exact h1), sx_two E (by omega) (by rw [e2]; exact h2) (by rw [e2]; exact h3)]
theorem sx_car {o m k : Nat} (h : ∀ j, j < m → S (o + j)) (hk : k = 0 ∨ (k = 1 ∧ 20 ≤ m) ∨ (k = 2 ∧ 8 ≤ m) ∨ (k = 3 ∧ 4 ≤ m)) :
    spV rs o k = spV cs o k ∧ dpV rs o k = dpV cs o k ∧ flV rs o k = flV cs o k ∧ tyV rs o k = tyV cs o k ∧ coV rs o k = coV cs o k := by
  have two0 : 4 ≤ m → twoV rs o 0 = twoV cs o 0 := fun hm => sx_two E (by omega) (h 0 (by omega)) (h 1 (by omega))
  have two2 : 4 ≤ m → twoV rs o 2 = twoV cs o 2 := fun hm => sx_two E (by omega) (h 2 (by omega)) (h 3 (by omega))
  rcases hk with rfl | ⟨rfl, hm⟩ | ⟨rfl, hm⟩ | ⟨rfl, hm⟩
  · exact ⟨rfl, rfl, rfl, rfl, rfl⟩
  · refine ⟨two0 (by omega), two2 (by omega), ?_, rfl, rfl⟩
    show byteAt rs (o + 13 * 1) = byteAt cs (o + 13 * 1)
    exact E _ (h 13 (by omega))
  · exact ⟨two0 (by omega), two2 (by omega), rfl, rfl, rfl⟩
  · refine ⟨rfl, rfl, rfl, ?_, ?_⟩
    · show byteAt rs (o + 0 * 1) = byteAt cs (o + 0 * 1)
      exact E _ (h 0 (by omega))
    · show byteAt rs (o + 1 * 1) = byteAt cs (o + 1 * 1)
      exact E _ (h 1 (by omega))
theorem sx_run6 {n L : Nat} (hS : ∀ i, 40 ≤ i → i < L → S i) (hb : Bytes cs 0 n) (hL : (L : Int) ≤ (n : Int)) : ∀ (k : Nat) (s : S6), I6 cs n (L : Int) s → run6 rs (L : Int) k s = run6 cs (L : Int) k s
  | 0, _, _ => rfl
  | k + 1, s, hI => by
    have h0 := hI.lo
    unfold run6
    cases ext6 s.proto with
    | false => rfl
    | true =>
      simp only [cond_true]
      by_cases h8 : (L : Int) - s.at_ < 8
      · have : decide ((L : Int) - s.at_ < 8) = true := by simpa using h8
        rw [this]
        simp
      · have by_ : ∀ j : Int, 0 ≤ j → j < 8 → byI rs (s.at_ + j) = byI cs (s.at_ + j) := fun j hj hj' => sx_byI E (hS _ (by omega) (by omega))
        have tw : ∀ j : Int, 0 ≤ j → j + 1 < 8 → twoV rs 0 (s.at_ + j) = twoV cs 0 (s.at_ + j) := fun j hj hj' => sx_two E (by omega) (hS _ (by omega) (by omega)) (hS _ (by omega) (by omega))
        have b0 : byI rs s.at_ = byI cs s.at_ := sx_byI E (hS _ (by omega) (by omega))
        have hz : szV rs s (s.proto == 44) = szV cs s (s.proto == 44) := by
          unfold szV
          cases (s.proto == 44)
          · show sizeX rs s = sizeX cs s
            unfold sizeX
            rw [by_ 1 (by omega) (by omega)]
          · rfl
        have hn : nextV rs s (s.proto == 44) = nextV cs s (s.proto == 44) := by
          unfold nextV
          cases (s.proto == 44)
          · show nextX rs s = nextX cs s
            unfold nextX sizeX
            rw [by_ 1 (by omega) (by omega), b0]
          · show nextF rs s = nextF cs s
            unfold nextF
            rw [b0, by_ 3 (by omega) (by omega), tw 2 (by omega) (by omega), tw 6 (by omega) (by omega)]
        rw [hz, hn]
        cases hc : (decide (s.nn ≥ 8) || decide ((L : Int) - s.at_ < 8) || decide ((L : Int) - s.at_ < szV cs s (s.proto == 44))) with
        | true => rfl
        | false =>
          simp only [cond_false]
          simp only [Bool.or_eq_false_iff, decide_eq_false_iff_not] at hc
          obtain ⟨⟨e1, e2⟩, e3⟩ := hc
          obtain ⟨hI', _⟩ := next6 hb hI hL (by omega) e3 (by omega)
          exact sx_run6 hS hb hL k _ hI'
end
/-- Version 4: all but the time to live and the checksum is the same, and the header's sum is right. -/
theorem turn4 {cs rs : List Value} {n k : Nat} {L : Nat} (hb : Bytes cs 0 n) (h1 : ¬ (n : Int) < 1) (hv : B cs 0 / 16 = 4) (hg : isBad4 cs n = false) (hLL : lenV cs = (L : Int)) (hk : L ≤ k)
    (E : SameX (fun i => i < L ∧ i ≠ 8 ∧ i ≠ 10 ∧ i ≠ 11) cs rs) (hs : sumV rs 0 (hdrV cs).toNat = 0) :
    parseF rs k = { parseF cs n with ttl := B rs 8 } := by
  have hg' := hg
  simp only [isBad4, Bool.or_eq_false_iff, decide_eq_false_iff_not] at hg'
  obtain ⟨⟨⟨⟨⟨⟨g1, g2⟩, g3⟩, g4⟩, g5⟩, g6⟩, g7⟩ := hg'
  have hB0 := (bB hb 0 (by omega)).2
  have hH : hdrV cs = 4 * (B cs 0 % 16) := rfl
  have e0 : B rs 0 = B cs 0 := E 0 ⟨by omega, by omega, by omega, by omega⟩
  have eh : hdrV rs = hdrV cs := by unfold hdrV; rw [e0]
  have el : lenV rs = lenV cs := sx_two E (by omega) ⟨by omega, by omega, by omega, by omega⟩ ⟨by omega, by omega, by omega, by omega⟩
  have e6 : B rs 6 = B cs 6 := E 6 ⟨by omega, by omega, by omega, by omega⟩
  have es : sumH rs = 0 := by unfold sumH; rw [eh]; exact hs
  have hbad : isBad4 rs k = false := by
    unfold isBad4
    rw [eh, el, es, e6, g7]
    simp only [Bool.or_false, Bool.or_eq_false_iff, decide_eq_false_iff_not]
    exact ⟨⟨⟨⟨⟨by omega, g2⟩, by omega⟩, g4⟩, by omega⟩, rfl⟩
  have eoff : offsV rs = offsV cs := by
    unfold offsV
    rw [sx_two E (i := 6) (by omega) ⟨by omega, by omega, by omega, by omega⟩ ⟨by omega, by omega, by omega, by omega⟩]
  have e9 : B rs 9 = B cs 9 := E 9 ⟨by omega, by omega, by omega, by omega⟩
  have ecO : cOff rs = cOff cs := by unfold cOff; rw [el, eh]
  have ecL : cLen rs = cLen cs := by unfold cLen; rw [el, eh]
  have eck : carK 1 (offsV rs) (B rs 9) (cLen rs) = carK 1 (offsV cs) (B cs 9) (cLen cs) := by rw [eoff, e9, ecL]
  have hp : parseF cs n = v4PF cs (carK 1 (offsV cs) (B cs 9) (cLen cs)) := by
    unfold parseF
    have q1 : decide ((n : Int) < 1) = false := by simpa using h1
    have q4 : (B cs 0 / 16 == 4) = true := by simpa using hv
    rw [q1, q4, hg]; rfl
  have hr : parseF rs k = v4PF rs (carK 1 (offsV cs) (B cs 9) (cLen cs)) := by
    unfold parseF
    have q1 : decide ((k : Int) < 1) = false := by simp; omega
    have q4 : (B rs 0 / 16 == 4) = true := by rw [e0]; simpa using hv
    rw [q1, q4, hbad, eck]; rfl
  have hcar : ∀ j, j < cLen cs → cOff cs + j < L ∧ cOff cs + j ≠ 8 ∧ cOff cs + j ≠ 10 ∧ cOff cs + j ≠ 11 := fun j hj => by
    unfold cLen at hj
    unfold cOff
    cases qe : decide ((lenV cs).toNat = (hdrV cs).toNat) with
    | true =>
      have : (lenV cs).toNat = (hdrV cs).toNat := by simpa using qe
      omega
    | false =>
      show 0 + (hdrV cs).toNat * 1 + j < L ∧ 0 + (hdrV cs).toNat * 1 + j ≠ 8 ∧ 0 + (hdrV cs).toNat * 1 + j ≠ 10 ∧ 0 + (hdrV cs).toNat * 1 + j ≠ 11
      omega
  obtain ⟨c1, c2, c3, c4, c5⟩ := sx_car E hcar (carK_cases 1 (offsV cs) (B cs 9) (cLen cs))
  rw [hp, hr]
  generalize carK 1 (offsV cs) (B cs 9) (cLen cs) = kk at c1 c2 c3 c4 c5
  have t1 : B rs 1 = B cs 1 := E 1 ⟨by omega, by omega, by omega, by omega⟩
  have t4 : twoV rs 0 4 = twoV cs 0 4 := sx_two E (by omega) ⟨by omega, by omega, by omega, by omega⟩ ⟨by omega, by omega, by omega, by omega⟩
  have f12 : fourV rs 0 12 = fourV cs 0 12 := sx_four E (k := 12) fun j hj => ⟨by omega, by omega, by omega, by omega⟩
  have f16 : fourV rs 0 16 = fourV cs 0 16 := sx_four E (k := 16) fun j hj => ⟨by omega, by omega, by omega, by omega⟩
  unfold v4PF
  rw [ecO, t1, el, eh, t4, e6, eoff, e9, f12, f16, c1, c2, c3, c4, c5]
theorem turn6 {cs rs : List Value} {n k : Nat} {L : Nat} (hb : Bytes cs 0 n) (h1 : ¬ (n : Int) < 1) (hv : B cs 0 / 16 = 6) (hz : er6 cs n = 0) (hLL : len6V cs = (L : Int)) (hk : L ≤ k) (E : SameX (fun i => i < L ∧ i ≠ 7) cs rs) :
    (parseF rs k).err = 0 ∧ (parseF rs k).ver = 6 ∧ (parseF rs k).len = (L : Int) ∧ (parseF rs k).ttl = byteAt rs 7 ∧ (parseF rs k).c0 = (parseF cs n).c0 := by
  obtain ⟨g1, g2, g3, g4, g5, g6⟩ := ok6 hb hz
  have hL40 : 40 ≤ L := by omega
  have hLn : (L : Int) ≤ (n : Int) := by omega
  have e0 : B rs 0 = B cs 0 := E 0 ⟨by omega, by omega⟩
  have tw : ∀ i : Int, 0 ≤ i → i ≤ 4 → twoV rs 0 i = twoV cs 0 i := fun i h0 h1 => sx_two E h0 ⟨by omega, by omega⟩ ⟨by omega, by omega⟩
  have el : len6V rs = len6V cs := by show 40 + twoV rs 0 4 = 40 + twoV cs 0 4; rw [tw 4 (by omega) (by omega)]
  have b6 := (bB hb 6 (by omega)).2
  have es6 : s6 (byteAt rs) = s6 (byteAt cs) := by unfold s6; rw [E 6 ⟨by omega, by omega⟩]
  have hI : I6 cs n (L : Int) (s6 (byteAt cs)) := ⟨Int.le_refl 40, by show (40 : Int) ≤ _; omega, Int.le_refl 0, (show (0 : Int) ≤ 8 by decide), b6.1, b6.2⟩
  have er : res6 rs = res6 cs := by
    unfold res6 fin6
    rw [el, es6, hLL]
    exact sx_run6 E (fun i h h' => ⟨h', by omega⟩) hb hLn _ _ hI
  have ebad : bad6 rs k = false := by
    unfold bad6
    rw [el, Bool.or_eq_false_iff]
    simp only [decide_eq_false_iff_not]
    omega
  have ebad0 : bad6 cs n = false := by
    unfold bad6
    rw [Bool.or_eq_false_iff]
    simp only [decide_eq_false_iff_not]
    omega
  have eer : er6 rs k = 0 := by
    have h := hz
    unfold er6 at h ⊢
    rw [ebad0] at h
    rw [ebad, er]
    exact h
  have ekr : k6 rs k = q6 rs (byteAt rs) := by
    unfold k6
    have d1 : decide ((k : Int) < 40) = false := by simp; omega
    have d2 : decide ((k : Int) < len6V rs) = false := by rw [el]; simp; omega
    rw [d1, d2]; rfl
  have ekc : k6 cs n = q6 cs (byteAt cs) := by
    unfold k6
    have d3 : decide ((n : Int) < 40) = false := by simp; omega
    have d4 : decide ((n : Int) < len6V cs) = false := by simp; omega
    rw [d3, d4]; rfl
  have kcls : (k6 rs k).cls = (k6 cs n).cls := by
    rw [ekr, ekc]
    show twoV rs 0 0 / 16 % 256 = twoV cs 0 0 / 16 % 256
    rw [tw 0 (by omega) (by omega)]
  have klab : (k6 rs k).lab = (k6 cs n).lab := by
    rw [ekr, ekc]
    show byteAt rs 1 % 16 * 65536 + twoV rs 0 2 = byteAt cs 1 % 16 * 65536 + twoV cs 0 2
    rw [tw 2 (by omega) (by omega), E 1 ⟨by omega, by omega⟩]
  have klen : (k6 rs k).len = (k6 cs n).len := by
    rw [ekr, ekc]
    exact el
  have kttl : (k6 rs k).ttl = byteAt rs 7 := by rw [ekr]; rfl
  have et : t6 rs k = t6 cs n := by unfold t6; rw [ebad, ebad0, er]
  have eh : hd6 rs k = hd6 cs n := by unfold hd6; rw [ebad, ebad0, er]
  have eo : o6 rs k = o6 cs n := by unfold o6; rw [klen, eh]
  have em : m6 rs k = m6 cs n := by unfold m6; rw [klen, eh]
  have eb : ∀ j, 8 ≤ j → j < 40 → β6 rs k j = β6 cs n j := fun j hj hj' => by
    unfold β6
    rw [ebad, ebad0]
    exact E j ⟨by omega, by omega⟩
  have hp : parseF cs n = v6PF cs n (carK 58 (t6 cs n).offs (t6 cs n).proto (m6 cs n)) := by
    unfold parseF
    have q1 : decide ((n : Int) < 1) = false := by simpa using h1
    have q4 : (B cs 0 / 16 == 4) = false := by rw [hv]; rfl
    have q6 : (B cs 0 / 16 == 6) = true := by rw [hv]; rfl
    rw [q1, q4, q6, hz]; rfl
  have hr : parseF rs k = v6PF rs k (carK 58 (t6 cs n).offs (t6 cs n).proto (m6 cs n)) := by
    unfold parseF
    have q1 : decide ((k : Int) < 1) = false := by simp; omega
    have q4 : (B rs 0 / 16 == 4) = false := by rw [e0, hv]; rfl
    have q6 : (B rs 0 / 16 == 6) = true := by rw [e0, hv]; rfl
    rw [q1, q4, q6, eer, et, em]; rfl
  rw [hp, hr]
  refine ⟨rfl, rfl, by show (k6 rs k).len = _; rw [klen, g3, hLL], kttl, ?_⟩
  have hcar : ∀ j, j < m6 cs n → o6 cs n + j < L ∧ o6 cs n + j ≠ 7 := fun j hj => by
    unfold m6 at hj
    unfold o6
    cases qe : decide ((k6 cs n).len.toNat = (hd6 cs n).toNat) with
    | true =>
      have : (k6 cs n).len.toNat = (hd6 cs n).toNat := by simpa using qe
      omega
    | false =>
      show 0 + (hd6 cs n).toNat * 1 + j < L ∧ 0 + (hd6 cs n).toNat * 1 + j ≠ 7
      omega
  obtain ⟨c1, c2, c3, c4, c5⟩ := sx_car E hcar (carK_cases 58 (t6 cs n).offs (t6 cs n).proto (m6 cs n))
  generalize carK 58 (t6 cs n).offs (t6 cs n).proto (m6 cs n) = kk at c1 c2 c3 c4 c5
  have hu : ∀ b, 8 ≤ b → b ≤ 24 → u8s (fun j => β6 rs k (b + j)) = u8s (fun j => β6 cs n (b + j)) := fun b hb8 hb24 => by
    unfold u8s
    refine List.map_congr_left fun j hj => ?_
    show Value.int .u8 (β6 rs k (b + j)) = Value.int .u8 (β6 cs n (b + j))
    rw [eb (b + j) (by omega) (by have := List.mem_range.1 hj; omega)]
  have key : ∀ p q : PF, p.ver = q.ver → p.cls = q.cls → p.lab = q.lab → p.len = q.len → p.hdr = q.hdr → p.id = q.id → p.dont = q.dont → p.more = q.more → p.offs = q.offs → p.proto = q.proto → p.src = q.src → p.dst = q.dst →
      u8s p.s6 = u8s q.s6 → u8s p.d6 = u8s q.d6 → p.car = q.car → p.sp = q.sp → p.dp = q.dp → p.fl = q.fl → p.ty = q.ty → p.co = q.co → p.c0 = q.c0 := by
    intro p q a1 a2 a3 a4 a5 a6 a7 a8 a9 a11 a12 a13 a14 a15 a16 a17 a18 a19 a20 a21
    unfold PF.c0 PF.cells PF.fields
    simp only []
    rw [a1, a2, a3, a4, a5, a6, a7, a8, a9, a11, a12, a13, a14, a15, a16, a17, a18, a19, a20, a21]
  refine key _ _ rfl kcls klab klen eh ?_ rfl ?_ ?_ ?_ rfl rfl (hu 8 (by omega) (by omega)) (hu 24 (by omega) (by omega)) rfl ?_ ?_ ?_ ?_ ?_
  · show (t6 rs k).id = _; rw [et]; rfl
  · show (t6 rs k).more = _; rw [et]; rfl
  · show (t6 rs k).offs = _; rw [et]; rfl
  · show (t6 rs k).proto = _; rw [et]; rfl
  · show spV rs (o6 rs k) kk = _; rw [eo]; exact c1
  · show dpV rs (o6 rs k) kk = _; rw [eo]; exact c2
  · show flV rs (o6 rs k) kk = _; rw [eo]; exact c3
  · show tyV rs (o6 rs k) kk = _; rw [eo]; exact c4
  · show coV rs (o6 rs k) kk = _; rw [eo]; exact c5
end Go.Proofs.YtnfijnioclcnmaaDoor
