/- IP: what is read hangs on the bytes of the packet alone. -/
import Derived.Test.YtnfijnioclcnmaaDoorPrIpI
namespace Go.Proofs.YtnfijnioclcnmaaDoor
open Go Go.RowKit Go.Ev

/-- The cells of what is read. -/
def PF.cells (p : PF) : List Value := match p.fields with
  | .agg ⟨l⟩ => l
  | _ => []
def Same6 (cs rs : List Value) (L : Nat) : Prop := ∀ i, i < L → byteAt rs i = byteAt cs i
section
variable {cs rs : List Value} {L : Nat} (E : Same6 cs rs L)
include E
theorem same_B {i : Nat} (h : i < L) : B rs i = B cs i := E i h
theorem same_two {i : Int} (h0 : 0 ≤ i) (h : i + 1 < (L : Int)) : twoV rs 0 i = twoV cs 0 i := by
  unfold twoV
  rw [E _ (by omega), E _ (by omega)]
theorem same_twoO {o : Nat} {i : Int} (h0 : 0 ≤ i) (h : (o : Int) + i + 1 < (L : Int)) : twoV rs o i = twoV cs o i := by
  unfold twoV
  rw [E _ (by omega), E _ (by omega)]
theorem same_four {i : Int} (h0 : 0 ≤ i) (h : i + 3 < (L : Int)) : fourV rs 0 i = fourV cs 0 i := by
  unfold fourV
  rw [same_two E h0 (by omega), same_two E (by omega) (by omega)]
theorem same_sumK : ∀ k, 2 * k ≤ L → sumK rs 0 k = sumK cs 0 k
  | 0, _ => rfl
  | k + 1, h => by
    show stepS (sumK rs 0 k) (twoV rs 0 (2 * (k : Int))) = stepS (sumK cs 0 k) (twoV cs 0 (2 * (k : Int)))
    rw [same_sumK k (by omega), same_two E (by omega) (by omega)]
theorem same_byI {i : Int} (h0 : 0 ≤ i) (h : i < (L : Int)) : byI rs i = byI cs i := by
  unfold byI
  exact E _ (by omega)
/-- What is carried. -/
theorem same_car {o m k : Nat} (h : o + m ≤ L) (hk : k = 0 ∨ (k = 1 ∧ 20 ≤ m) ∨ (k = 2 ∧ 8 ≤ m) ∨ (k = 3 ∧ 4 ≤ m)) :
    spV rs o k = spV cs o k ∧ dpV rs o k = dpV cs o k ∧ flV rs o k = flV cs o k ∧ tyV rs o k = tyV cs o k ∧ coV rs o k = coV cs o k := by
  rcases hk with rfl | ⟨rfl, hm⟩ | ⟨rfl, hm⟩ | ⟨rfl, hm⟩
  · exact ⟨rfl, rfl, rfl, rfl, rfl⟩
  · refine ⟨?_, ?_, ?_, rfl, rfl⟩
    · show twoV rs o 0 = twoV cs o 0
      exact same_twoO E (by omega) (by omega)
    · show twoV rs o 2 = twoV cs o 2
      exact same_twoO E (by omega) (by omega)
    · show B rs (o + 13 * 1) = B cs (o + 13 * 1)
      exact same_B E (by omega)
  · refine ⟨?_, ?_, rfl, rfl, rfl⟩
    · show twoV rs o 0 = twoV cs o 0
      exact same_twoO E (by omega) (by omega)
    · show twoV rs o 2 = twoV cs o 2
      exact same_twoO E (by omega) (by omega)
  · refine ⟨rfl, rfl, rfl, ?_, ?_⟩
    · show B rs (o + 0 * 1) = B cs (o + 0 * 1)
      exact same_B E (by omega)
    · show B rs (o + 1 * 1) = B cs (o + 1 * 1)
      exact same_B E (by omega)
theorem same_run6 {n : Nat} (hb : Bytes cs 0 n) (hL : (L : Int) ≤ (n : Int)) : ∀ (k : Nat) (s : S6), I6 cs n (L : Int) s → run6 rs (L : Int) k s = run6 cs (L : Int) k s
  | 0, _, _ => rfl
  | k + 1, s, hI => by
    have h0 := hI.lo
    unfold run6
    cases ext6 s.proto with
    | false => rfl
    | true =>
      simp only [cond_true]
      by_cases h8 : (L : Int) - s.at_ < 8
      · have : decide ((L : Int) - s.at_ < 8) = true := by simpa using h8
        rw [this]
        simp
      · have hz : szV rs s (s.proto == 44) = szV cs s (s.proto == 44) := by
          unfold szV
          cases (s.proto == 44)
          · show sizeX rs s = sizeX cs s
            unfold sizeX
            rw [same_byI E (by omega) (by omega)]
          · rfl
        have hn : nextV rs s (s.proto == 44) = nextV cs s (s.proto == 44) := by
          unfold nextV
          cases (s.proto == 44)
          · show nextX rs s = nextX cs s
            unfold nextX sizeX
            rw [same_byI E (by omega) (by omega), same_byI E (by omega) (by omega)]
          · show nextF rs s = nextF cs s
            unfold nextF
            rw [same_byI E (by omega) (by omega), same_byI E (by omega) (by omega), same_two E (by omega) (by omega), same_two E (by omega) (by omega)]
        rw [hz, hn]
        cases hc : (decide (s.nn ≥ 8) || decide ((L : Int) - s.at_ < 8) || decide ((L : Int) - s.at_ < szV cs s (s.proto == 44))) with
        | true => rfl
        | false =>
          simp only [cond_false]
          simp only [Bool.or_eq_false_iff, decide_eq_false_iff_not] at hc
          obtain ⟨⟨e1, e2⟩, e3⟩ := hc
          obtain ⟨hI', _⟩ := next6 hb hI hL (by omega) e3 (by omega)
          exact same_run6 hb hL k _ hI'
end
theorem carK_cases (icmp offs proto : Int) (m : Nat) : carK icmp offs proto m = 0 ∨ (carK icmp offs proto m = 1 ∧ 20 ≤ m) ∨ (carK icmp offs proto m = 2 ∧ 8 ≤ m) ∨ (carK icmp offs proto m = 3 ∧ 4 ≤ m) := by
  unfold carK outc
  cases (offs != 0)
  · cases q1 : ((proto == 6) && decide ((m : Int) ≥ 20))
    · cases q2 : ((proto == 17) && decide ((m : Int) ≥ 8))
      · cases q3 : ((proto == icmp) && decide ((m : Int) ≥ 4))
        · exact .inl rfl
        · simp only [Bool.and_eq_true, decide_eq_true_eq] at q3
          exact .inr (.inr (.inr ⟨rfl, by omega⟩))
      · simp only [Bool.and_eq_true, decide_eq_true_eq] at q2
        exact .inr (.inr (.inl ⟨rfl, by omega⟩))
    · simp only [Bool.and_eq_true, decide_eq_true_eq] at q1
      exact .inr (.inl ⟨rfl, by omega⟩)
  · exact .inl rfl

/-! ### the two versions -/

theorem cut4 {cs rs : List Value} {n k : Nat} {L : Nat} (hb : Bytes cs 0 n) (h1 : ¬ (n : Int) < 1) (hv : B cs 0 / 16 = 4) (hg : isBad4 cs n = false) (hLL : lenV cs = (L : Int)) (hk : L ≤ k) (E : Same6 cs rs L) :
    (parseF rs k).err = 0 ∧ (parseF rs k).len = (L : Int) ∧ (parseF rs k).cells = (parseF cs n).cells := by
  have hg' := hg
  simp only [isBad4, Bool.or_eq_false_iff, decide_eq_false_iff_not] at hg'
  obtain ⟨⟨⟨⟨⟨⟨g1, g2⟩, g3⟩, g4⟩, g5⟩, g6⟩, g7⟩ := hg'
  have hB0 := (bB hb 0 (by omega)).2
  have hH : hdrV cs = 4 * (B cs 0 % 16) := rfl
  have e0 : B rs 0 = B cs 0 := same_B E (by omega)
  have eh : hdrV rs = hdrV cs := by unfold hdrV; rw [e0]
  have el : lenV rs = lenV cs := same_two E (by omega) (by omega)
  have e6 : B rs 6 = B cs 6 := same_B E (by omega)
  have es : sumH rs = sumH cs := by
    unfold sumH sumV
    rw [eh, if_neg (by omega), if_neg (by omega), same_sumK E _ (by omega)]
  have hbad : isBad4 rs k = false := by
    unfold isBad4
    rw [eh, el, es, e6, g6, g7]
    simp only [Bool.or_false, Bool.or_eq_false_iff, decide_eq_false_iff_not]
    exact ⟨⟨⟨⟨by omega, g2⟩, by omega⟩, g4⟩, by omega⟩
  have eoff : offsV rs = offsV cs := by unfold offsV; rw [same_two E (by omega) (by omega)]
  have e9 : B rs 9 = B cs 9 := same_B E (by omega)
  have ecO : cOff rs = cOff cs := by unfold cOff; rw [el, eh]
  have ecL : cLen rs = cLen cs := by unfold cLen; rw [el, eh]
  have eck : carK 1 (offsV rs) (B rs 9) (cLen rs) = carK 1 (offsV cs) (B cs 9) (cLen cs) := by rw [eoff, e9, ecL]
  have hp : parseF cs n = v4PF cs (carK 1 (offsV cs) (B cs 9) (cLen cs)) := by
    unfold parseF
    have q1 : decide ((n : Int) < 1) = false := by simpa using h1
    have q4 : (B cs 0 / 16 == 4) = true := by simpa using hv
    rw [q1, q4, hg]; rfl
  have hr : parseF rs k = v4PF rs (carK 1 (offsV cs) (B cs 9) (cLen cs)) := by
    unfold parseF
    have q1 : decide ((k : Int) < 1) = false := by simp; omega
    have q4 : (B rs 0 / 16 == 4) = true := by rw [e0]; simpa using hv
    rw [q1, q4, hbad, eck]; rfl
  rw [hp, hr]
  refine ⟨rfl, by show lenV rs = _; rw [el, hLL], ?_⟩
  have eo : cOff cs + cLen cs ≤ L := by
    unfold cOff cLen
    cases qe : decide ((lenV cs).toNat = (hdrV cs).toNat) with
    | true => show 0 + 0 + _ ≤ _; omega
    | false => show 0 + (hdrV cs).toNat * 1 + _ ≤ _; omega
  obtain ⟨c1, c2, c3, c4, c5⟩ := same_car E eo (carK_cases 1 (offsV cs) (B cs 9) (cLen cs))
  generalize carK 1 (offsV cs) (B cs 9) (cLen cs) = kk at c1 c2 c3 c4 c5
  have t1 : B rs 1 = B cs 1 := same_B E (by omega)
  have t8 : B rs 8 = B cs 8 := same_B E (by omega)
  have t4 : twoV rs 0 4 = twoV cs 0 4 := same_two E (by omega) (by omega)
  have f12 : fourV rs 0 12 = fourV cs 0 12 := same_four E (by omega) (by omega)
  have f16 : fourV rs 0 16 = fourV cs 0 16 := same_four E (by omega) (by omega)
  have hpf : v4PF rs kk = v4PF cs kk := by
    unfold v4PF
    rw [ecO, t1, el, eh, t4, e6, eoff, t8, e9, f12, f16, c1, c2, c3, c4, c5]
  rw [hpf]
theorem len6V_same {cs rs : List Value} {L : Nat} (E : Same6 cs rs L) (h : 40 ≤ L) : len6V rs = len6V cs := by
  show 40 + twoV rs 0 4 = 40 + twoV cs 0 4
  rw [same_two E (by omega) (by omega)]
theorem q6_same {cs rs : List Value} {L : Nat} (E : Same6 cs rs L) (h : 40 ≤ L) : q6 rs (byteAt rs) = q6 cs (byteAt cs) := by
  unfold q6
  rw [len6V_same E h]
  simp only [labV, same_two E (i := 0) (by omega) (by omega), same_two E (i := 2) (by omega) (by omega), E 1 (by omega), E 7 (by omega)]
theorem cut6 {cs rs : List Value} {n k : Nat} {L : Nat} (hb : Bytes cs 0 n) (h1 : ¬ (n : Int) < 1) (hv : B cs 0 / 16 = 6) (hz : er6 cs n = 0) (hLL : len6V cs = (L : Int)) (hk : L ≤ k) (E : Same6 cs rs L) :
    (parseF rs k).err = 0 ∧ (parseF rs k).len = (L : Int) ∧ (parseF rs k).cells = (parseF cs n).cells := by
  obtain ⟨g1, g2, g3, g4, g5, g6⟩ := ok6 hb hz
  have hL40 : 40 ≤ L := by omega
  have hLn : (L : Int) ≤ (n : Int) := by omega
  have e0 : B rs 0 = B cs 0 := same_B E (by omega)
  have el := len6V_same E hL40
  have eq := q6_same E hL40
  have b6 := (bB hb 6 (by omega)).2
  have es6 : s6 (byteAt rs) = s6 (byteAt cs) := by unfold s6; rw [E 6 (by omega)]
  have hI : I6 cs n (L : Int) (s6 (byteAt cs)) := ⟨Int.le_refl 40, by show (40 : Int) ≤ _; omega, Int.le_refl 0, (show (0 : Int) ≤ 8 by decide), b6.1, b6.2⟩
  have er : res6 rs = res6 cs := by
    unfold res6 fin6
    rw [el, es6, hLL]
    exact same_run6 E hb hLn _ _ hI
  have ebad : bad6 rs k = false := by
    unfold bad6
    rw [el, Bool.or_eq_false_iff]
    simp only [decide_eq_false_iff_not]
    omega
  have ebad0 : bad6 cs n = false := by
    unfold bad6
    rw [Bool.or_eq_false_iff]
    simp only [decide_eq_false_iff_not]
    omega
  have eer : er6 rs k = 0 := by
    have h := hz
    unfold er6 at h ⊢
    rw [ebad0] at h
    rw [ebad, er]
    exact h
  have ek : k6 rs k = k6 cs n := by
    unfold k6
    have d1 : decide ((k : Int) < 40) = false := by simp; omega
    have d2 : decide ((k : Int) < len6V rs) = false := by rw [el]; simp; omega
    have d3 : decide ((n : Int) < 40) = false := by simp; omega
    have d4 : decide ((n : Int) < len6V cs) = false := by simp; omega
    rw [d1, d2, d3, d4]
    exact eq
  have et : t6 rs k = t6 cs n := by unfold t6; rw [ebad, ebad0, er]
  have eh : hd6 rs k = hd6 cs n := by unfold hd6; rw [ebad, ebad0, er]
  have eo : o6 rs k = o6 cs n := by unfold o6; rw [ek, eh]
  have em : m6 rs k = m6 cs n := by unfold m6; rw [ek, eh]
  have eb : ∀ j, j < 40 → β6 rs k j = β6 cs n j := fun j hj => by
    unfold β6
    rw [ebad, ebad0]
    exact E j (by omega)
  have hp : parseF cs n = v6PF cs n (carK 58 (t6 cs n).offs (t6 cs n).proto (m6 cs n)) := by
    unfold parseF
    have q1 : decide ((n : Int) < 1) = false := by simpa using h1
    have q4 : (B cs 0 / 16 == 4) = false := by rw [hv]; rfl
    have q6 : (B cs 0 / 16 == 6) = true := by rw [hv]; rfl
    rw [q1, q4, q6, hz]; rfl
  have hr : parseF rs k = v6PF rs k (carK 58 (t6 cs n).offs (t6 cs n).proto (m6 cs n)) := by
    unfold parseF
    have q1 : decide ((k : Int) < 1) = false := by simp; omega
    have q4 : (B rs 0 / 16 == 4) = false := by rw [e0, hv]; rfl
    have q6 : (B rs 0 / 16 == 6) = true := by rw [e0, hv]; rfl
    rw [q1, q4, q6, eer, et, em]; rfl
  rw [hp, hr]
  refine ⟨rfl, by show (k6 rs k).len = _; rw [ek, g3, hLL], ?_⟩
  have eoL : o6 cs n + m6 cs n ≤ L := by
    unfold o6 m6
    cases qe : decide ((k6 cs n).len.toNat = (hd6 cs n).toNat) with
    | true => show 0 + 0 + _ ≤ _; omega
    | false => show 0 + (hd6 cs n).toNat * 1 + _ ≤ _; omega
  obtain ⟨c1, c2, c3, c4, c5⟩ := same_car E eoL (carK_cases 58 (t6 cs n).offs (t6 cs n).proto (m6 cs n))
  generalize carK 58 (t6 cs n).offs (t6 cs n).proto (m6 cs n) = kk at c1 c2 c3 c4 c5
  have hu : ∀ b, b ≤ 24 → u8s (fun j => β6 rs k (b + j)) = u8s (fun j => β6 cs n (b + j)) := fun b hb24 => by
    unfold u8s
    refine List.map_congr_left fun j hj => ?_
    show Value.int .u8 (β6 rs k (b + j)) = Value.int .u8 (β6 cs n (b + j))
    rw [eb (b + j) (by have := List.mem_range.1 hj; omega)]
  have key : ∀ p q : PF, p.ver = q.ver → p.cls = q.cls → p.lab = q.lab → p.len = q.len → p.hdr = q.hdr → p.id = q.id → p.dont = q.dont → p.more = q.more → p.offs = q.offs → p.ttl = q.ttl → p.proto = q.proto → p.src = q.src → p.dst = q.dst →
      u8s p.s6 = u8s q.s6 → u8s p.d6 = u8s q.d6 → p.car = q.car → p.sp = q.sp → p.dp = q.dp → p.fl = q.fl → p.ty = q.ty → p.co = q.co → p.cells = q.cells := by
    intro p q a1 a2 a3 a4 a5 a6 a7 a8 a9 a10 a11 a12 a13 a14 a15 a16 a17 a18 a19 a20 a21
    unfold PF.cells PF.fields
    rw [a1, a2, a3, a4, a5, a6, a7, a8, a9, a10, a11, a12, a13, a14, a15, a16, a17, a18, a19, a20, a21]
  refine key _ _ rfl ?_ ?_ ?_ eh ?_ rfl ?_ ?_ ?_ ?_ rfl rfl (hu 8 (by omega)) (hu 24 (by omega)) rfl ?_ ?_ ?_ ?_ ?_
  · show (k6 rs k).cls = _; rw [ek]; rfl
  · show (k6 rs k).lab = _; rw [ek]; rfl
  · show (k6 rs k).len = _; rw [ek]; rfl
  · show (t6 rs k).id = _; rw [et]; rfl
  · show (t6 rs k).more = _; rw [et]; rfl
  · show (t6 rs k).offs = _; rw [et]; rfl
  · show (k6 rs k).ttl = _; rw [ek]; rfl
  · show (t6 rs k).proto = _; rw [et]; rfl
  · show spV rs (o6 rs k) kk = _; rw [eo]; exact c1
  · show dpV rs (o6 rs k) kk = _; rw [eo]; exact c2
  · show flV rs (o6 rs k) kk = _; rw [eo]; exact c3
  · show tyV rs (o6 rs k) kk = _; rw [eo]; exact c4
  · show coV rs (o6 rs k) kk = _; rw [eo]; exact c5
/-- What is read of a packet is read of any row that begins with it. -/
theorem parse_cut {cs : List Value} {n : Nat} (hb : Bytes cs 0 n) (he : (parseF cs n).err = 0) : ∃ L : Nat, (parseF cs n).len = (L : Int) ∧ 20 ≤ L ∧ L ≤ n ∧
    ∀ (rs : List Value) (k : Nat), L ≤ k → Same6 cs rs L → (parseF rs k).err = 0 ∧ (parseF rs k).len = (L : Int) ∧ (parseF rs k).cells = (parseF cs n).cells := by
  have he0 := he
  unfold parseF at he
  cases q1 : decide ((n : Int) < 1) with
  | true => rw [q1] at he; exact absurd (show (8 : Int) = 0 from he) (by decide)
  | false =>
  rw [q1] at he
  simp only [cond_false] at he
  have h1 : ¬ (n : Int) < 1 := by simpa using q1
  cases q4 : (B cs 0 / 16 == 4) with
  | true =>
    rw [q4] at he
    simp only [cond_true] at he
    have hv : B cs 0 / 16 = 4 := by simpa using q4
    cases qb : isBad4 cs n with
    | true => rw [qb] at he; exact absurd (show bad4 cs n = 0 from he) (v4Err_ne _ _ _ _ _ _)
    | false =>
      have hg' := qb
      simp only [isBad4, Bool.or_eq_false_iff, decide_eq_false_iff_not] at hg'
      obtain ⟨⟨⟨⟨⟨⟨g1, g2⟩, g3⟩, g4⟩, g5⟩, g6⟩, g7⟩ := hg'
      have hlen : (parseF cs n).len = lenV cs := by unfold parseF; rw [q1, q4, qb]; rfl
      refine ⟨(lenV cs).toNat, by rw [hlen]; omega, by omega, by omega, fun rs k hk E => cut4 hb h1 hv qb (by omega) hk E⟩
  | false =>
  rw [q4] at he
  simp only [cond_false] at he
  cases q6 : (B cs 0 / 16 == 6) with
  | true =>
    rw [q6] at he
    simp only [cond_true] at he
    have hv : B cs 0 / 16 = 6 := by simpa using q6
    cases qe : (er6 cs n != 0) with
    | true =>
      rw [qe] at he
      have : er6 cs n = 0 := he
      rw [this] at qe; cases qe
    | false =>
      have hz : er6 cs n = 0 := by simpa using qe
      obtain ⟨g1, g2, g3, g4, g5, g6⟩ := ok6 hb hz
      have hlen : (parseF cs n).len = (k6 cs n).len := by unfold parseF; rw [q1, q4, q6, qe]; rfl
      refine ⟨(len6V cs).toNat, by rw [hlen, g3]; omega, by omega, by omega, fun rs k hk E => cut6 hb h1 hv hz (by omega) hk E⟩
  | false => rw [q6] at he; exact absurd (show (180 : Int) = 0 from he) (by decide)
end Go.Proofs.YtnfijnioclcnmaaDoor
