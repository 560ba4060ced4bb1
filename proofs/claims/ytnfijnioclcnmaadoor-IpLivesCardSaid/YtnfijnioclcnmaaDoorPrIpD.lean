/- IP: a packet of IPv6, as one call. -/
import Derived.Test.YtnfijnioclcnmaaDoorPrIpC
namespace Go.Proofs.YtnfijnioclcnmaaDoor
open Go Go.RowKit Go.Ev

theorem All.append {ps qs : List Prop} (h : All ps) (h' : All qs) : All (ps ++ qs) := fun p hp => (List.mem_append.1 hp).elim (h p) (h' p)
theorem All.nil : All [] := fun _ h => (by cases h)
theorem All.cons {p : Prop} {ps : List Prop} (h : p) (h' : All ps) : All (p :: ps) := fun q hq => by
  rcases List.mem_cons.1 hq with rfl | hq
  · exact h
  · exact h' q hq
theorem nth_drop (cs : List Value) (k : Nat) : nth (cs.drop k) 0 = nth cs k := by rw [nth_eq, nth_eq]; simp
theorem row40_eq {cs : List Value} {n : Nat} (hb : Bytes cs 0 n) (hn : 40 ≤ n) : row40 (byteAt cs) (cs.drop 40) = cs := by
  have key : ∀ k, k ≤ 40 → ((List.range k).map fun j => Value.int .u8 (byteAt cs j)) ++ cs.drop k = cs := by
    intro k
    induction k with
    | zero => intro _; simp
    | succ k ih =>
      intro hk
      have hat := hb.at_ k (by omega)
      rw [Nat.zero_add, nth_eq] at hat
      have hlt : k < cs.length := (List.getElem?_eq_some_iff.1 hat).1
      have hv : cs[k] = .int .u8 (byteAt cs k) := (List.getElem?_eq_some_iff.1 hat).2
      rw [List.range_succ, List.map_append, List.append_assoc]
      have e : cs.drop k = Value.int .u8 (byteAt cs k) :: cs.drop (k + 1) := by rw [← hv]; exact List.drop_eq_getElem_cons hlt
      simp only [List.map_cons, List.map_nil, List.cons_append, List.nil_append]
      rw [← e]
      exact ih (by omega)
  exact key 40 (Nat.le_refl _)

/-! ### the headers, one behind the other -/

def ext6 (p : Int) : Bool := p == 0 || p == 43 || p == 60 || p == 44
def run6 (cs : List Value) (L : Int) : Nat → S6 → S6 × Int
  | 0, s => (s, 180)
  | k + 1, s => bif ext6 s.proto then (bif decide (s.nn ≥ 8) || decide (L - s.at_ < 8) || decide (L - s.at_ < szV cs s (s.proto == 44)) then (s, 180) else run6 cs L k (nextV cs s (s.proto == 44))) else (s, 0)
structure I6 (cs : List Value) (n : Nat) (L : Int) (s : S6) : Prop where
  lo : 40 ≤ s.at_
  hi : s.at_ ≤ L
  n0 : 0 ≤ s.nn
  n1 : s.nn ≤ 8
  p0 : 0 ≤ s.proto
  p1 : s.proto < 256
theorem kindP_self (s : S6) : All (kindP s (s.proto == 0) (s.proto == 43) (s.proto == 60) (s.proto == 44)) := by
  unfold kindP
  refine All.cons rfl ?_
  cases (s.proto == 0)
  · refine All.cons rfl ?_
    cases (s.proto == 43)
    · refine All.cons rfl ?_
      cases (s.proto == 60)
      · exact All.cons rfl All.nil
      · exact All.nil
    · exact All.nil
  · exact All.nil
theorem is44_self (s : S6) : is44 (s.proto == 0) (s.proto == 43) (s.proto == 60) (s.proto == 44) = (s.proto == 44) := by
  unfold is44
  by_cases h : s.proto = 44
  · rw [h]; rfl
  · have : (s.proto == 44) = false := by simp [h]
    rw [this]; simp
theorem limP_all {q : K6} {s : S6} (h0 : 40 ≤ s.at_) (h1 : s.at_ ≤ q.len) (h2 : q.len ≤ 140737488355328) : All (limP q s (decide (s.nn ≥ 8)) (decide (q.len - s.at_ < 8))) := by
  unfold limP
  refine All.cons rfl ?_
  cases decide (s.nn ≥ 8)
  · exact All.cons (wrap_in (by omega) (by omega)) (All.cons rfl All.nil)
  · exact All.nil
theorem byI_bounds {cs : List Value} {n : Nat} (hb : Bytes cs 0 n) {i : Int} (h0 : 0 ≤ i) (h1 : i < (n : Int)) : nthB cs (0 + i.toNat * 1) ∧ 0 ≤ byI cs i ∧ byI cs i < 256 := byte_bounds hb h0 h1
theorem sizeP_all {cs : List Value} {n : Nat} (hb : Bytes cs 0 n) {q : K6} {s : S6} (h0 : 40 ≤ s.at_) (h1 : s.at_ + 8 ≤ q.len) (h2 : q.len ≤ (n : Int)) : All (sizeP cs n q s (s.proto == 44) (decide (q.len - s.at_ < szV cs s (s.proto == 44)))) := by
  have hs := hb.small
  obtain ⟨b1, b2, b3⟩ := byI_bounds hb (i := s.at_ + 1) (by omega) (by omega)
  unfold sizeP
  refine All.cons rfl (All.append ?_ (All.cons (wrap_in (by omega) (by omega)) (All.cons rfl All.nil)))
  cases (s.proto == 44)
  · exact All.cons (wrap_in (by omega) (by omega)) (All.cons ⟨by omega, by omega⟩ (All.cons b1 (All.cons (wrap_in (by omega) (by omega)) (All.cons (wrap_in (by omega) (by omega)) (All.cons (wrap_in (by omega) (by omega)) All.nil)))))
  · exact All.nil
theorem band8_bit {b : Int} (h0 : 0 ≤ b) (h1 : b < 256) : band8 b 1 = b % 2 := by
  have h : ∀ k : Fin 256, band8 (k.val : Int) 1 = (k.val : Int) % 2 := by decide +kernel
  have := h ⟨b.toNat, by omega⟩
  simpa [Int.toNat_of_nonneg h0] using this
theorem stepP_all {cs : List Value} {n : Nat} (hb : Bytes cs 0 n) {q : K6} {s : S6} (h0 : 40 ≤ s.at_) (h1 : s.at_ + 8 ≤ q.len) (h2 : q.len ≤ (n : Int)) (h3 : s.at_ + szV cs s (s.proto == 44) ≤ q.len) (h4 : 0 ≤ szV cs s (s.proto == 44)) (n0 : 0 ≤ s.nn) (n1 : s.nn ≤ 8) : All (stepP cs n s (s.proto == 44)) := by
  have hs := hb.small
  obtain ⟨a1, a2, a3⟩ := byI_bounds hb (i := s.at_) (by omega) (by omega)
  obtain ⟨b1, b2, b3⟩ := byI_bounds hb (i := s.at_ + 3) (by omega) (by omega)
  obtain ⟨c1, c2⟩ := twoV_bounds hb (i := s.at_ + 2) (by omega) (by omega)
  unfold stepP
  refine All.cons rfl (All.append ?_ (All.cons ⟨by omega, by omega⟩ (All.cons a1 (All.cons (wrap_in (by omega) (by omega)) (All.cons (wrap_in (by omega) (by omega)) (All.cons (wrap_in (by omega) (by omega)) All.nil))))))
  cases (s.proto == 44)
  · exact All.nil
  · refine All.cons (wrap_in (by omega) (by omega)) (All.cons ⟨hb, by omega, by omega⟩ (All.cons ?_ (All.cons (wrap_in (by omega) (by omega)) (All.cons (wrap_in (by omega) (by omega)) (All.cons ⟨by omega, by omega⟩ (All.cons b1 (All.cons (band8_bit b2 b3) (All.cons (wrap_in (by omega) (by omega)) (All.cons ⟨hb, by omega, by omega⟩ All.nil)))))))))
    rw [Int.fdiv_eq_ediv_of_nonneg _ (by decide)]; rfl
theorem next6 {cs : List Value} {n : Nat} (hb : Bytes cs 0 n) {L : Int} {s : S6} (hi : I6 cs n L s) (hL : L ≤ (n : Int)) (h1 : s.at_ + 8 ≤ L) (h3 : ¬ L - s.at_ < szV cs s (s.proto == 44)) (h8 : s.nn < 8) : I6 cs n L (nextV cs s (s.proto == 44)) ∧ (nextV cs s (s.proto == 44)).nn = s.nn + 1 := by
  obtain ⟨a1, a2, a3⟩ := byI_bounds hb (i := s.at_) (by have := hi.lo; omega) (by omega)
  obtain ⟨b1, b2, b3⟩ := byI_bounds hb (i := s.at_ + 1) (by have := hi.lo; omega) (by omega)
  have h0 := hi.lo
  have hn0 := hi.n0
  cases hk : (s.proto == 44)
  · rw [hk] at h3
    have e : szV cs s false = 8 + 8 * byI cs (s.at_ + 1) := rfl
    rw [e] at h3
    refine ⟨⟨?_, ?_, ?_, ?_, a2, a3⟩, rfl⟩
    · show 40 ≤ s.at_ + sizeX cs s; unfold sizeX; omega
    · show s.at_ + sizeX cs s ≤ L; unfold sizeX; omega
    · show 0 ≤ s.nn + 1; omega
    · show s.nn + 1 ≤ 8; omega
  · refine ⟨⟨?_, ?_, ?_, ?_, a2, a3⟩, rfl⟩
    · show 40 ≤ s.at_ + 8; omega
    · show s.at_ + 8 ≤ L; omega
    · show 0 ≤ s.nn + 1; omega
    · show s.nn + 1 ≤ 8; omega

/-! ### the loop -/

theorem h6_get (cs : List Value) (lo hi : Nat) (ex st : Bool) (box res : List Value) (rd wr : Nat) : [0, 1, 2].map (h6 cs lo hi ex st box res rd wr).get = [some (.cells cs 5 lo hi ex st), some (.cells box 25 0 0 true false), some (.cells res 25 0 0 true false)] := rfl
theorem h6_wf (cs : List Value) (lo hi : Nat) (ex st : Bool) (box res : List Value) (rd wr : Nat) (hw : wr < 8) : WF (h6 cs lo hi ex st box res rd wr) := by
  refine ⟨fun id o h => ?_, fun id h => ?_⟩
  · have e1 := T.get_set 24 (T.set 24 (T.set 24 (T.nil : T AObj) 0 (some (.cells cs 5 lo hi ex st))) 1 (some (.cells box 25 0 0 true false))) 2 (some (.cells res 25 0 0 true false)) id (by decide)
    have e2 := T.get_set 24 (T.set 24 (T.nil : T AObj) 0 (some (.cells cs 5 lo hi ex st))) 1 (some (.cells box 25 0 0 true false)) id (by decide)
    have e3 := T.get_set 24 (T.nil : T AObj) 0 (some (.cells cs 5 lo hi ex st)) id (by decide)
    have h' : (T.set 24 (T.set 24 (T.set 24 (T.nil : T AObj) 0 (some (.cells cs 5 lo hi ex st))) 1 (some (.cells box 25 0 0 true false))) 2 (some (.cells res 25 0 0 true false))).get id = some o := h
    rw [e1] at h'
    show id < 3
    by_cases h2 : id = 2
    · omega
    · rw [if_neg h2, e2] at h'
      by_cases h1 : id = 1
      · omega
      · rw [if_neg h1, e3] at h'
        by_cases h0 : id = 0
        · omega
        · rw [if_neg h0] at h'; cases h'
  · have h' : wr.testBit id = true := h
    show id < 3
    rcases Nat.lt_or_ge id 3 with h3 | h3
    · exact h3
    · have : wr < 2 ^ id := Nat.lt_of_lt_of_le hw (show 2 ^ 3 ≤ 2 ^ id from Nat.pow_le_pow_right (by decide) h3)
      rw [Nat.testBit_lt_two_pow this] at h'; cases h'
def hdr6 (r : S6 × Int) : Int := if r.2 = 0 then r.1.at_ else 0
theorem run6_err (cs : List Value) (L : Int) : ∀ k s, (run6 cs L k s).2 = 0 ∨ (run6 cs L k s).2 = 180
  | 0, _ => .inr rfl
  | k + 1, s => by
    unfold run6
    cases ext6 s.proto
    · exact .inl rfl
    · cases (decide (s.nn ≥ 8) || decide (L - s.at_ < 8) || decide (L - s.at_ < szV cs s (s.proto == 44)))
      · exact run6_err cs L k _
      · exact .inr rfl
def fin6 (cs : List Value) (L : Int) (s : S6) : S6 × Int := run6 cs L (9 - s.nn.toNat) s
theorem ext6_or (p : Int) : ext6 p = ((p == 0) || (p == 43) || (p == 60) || (p == 44)) := rfl
theorem fin6_end {cs : List Value} {L : Int} {s : S6} (hk : ext6 s.proto = false) (h8 : s.nn.toNat < 9) : fin6 cs L s = (s, 0) := by
  unfold fin6
  obtain ⟨k, hk'⟩ : ∃ k, 9 - s.nn.toNat = k + 1 := ⟨9 - s.nn.toNat - 1, by omega⟩
  rw [hk']
  simp only [run6, hk, cond_false]
theorem fin6_err {cs : List Value} {L : Int} {s : S6} (hk : ext6 s.proto = true) (h8 : s.nn.toNat < 9) (he : (decide (s.nn ≥ 8) || decide (L - s.at_ < 8) || decide (L - s.at_ < szV cs s (s.proto == 44))) = true) : fin6 cs L s = (s, 180) := by
  unfold fin6
  obtain ⟨k, hk'⟩ : ∃ k, 9 - s.nn.toNat = k + 1 := ⟨9 - s.nn.toNat - 1, by omega⟩
  rw [hk']
  simp only [run6, hk, he, cond_true]
theorem fin6_next {cs : List Value} {L : Int} {s : S6} (hk : ext6 s.proto = true) (h0 : 0 ≤ s.nn) (h8 : s.nn < 8) (he : (decide (s.nn ≥ 8) || decide (L - s.at_ < 8) || decide (L - s.at_ < szV cs s (s.proto == 44))) = false) (hn : (nextV cs s (s.proto == 44)).nn = s.nn + 1) :
    fin6 cs L s = fin6 cs L (nextV cs s (s.proto == 44)) := by
  unfold fin6
  obtain ⟨k, hk'⟩ : ∃ k, 9 - s.nn.toNat = k + 1 := ⟨9 - s.nn.toNat - 1, by omega⟩
  have hk2 : 9 - (nextV cs s (s.proto == 44)).nn.toNat = k := by rw [hn]; omega
  rw [hk', hk2]
  simp only [run6, hk, he, cond_true, cond_false]
theorem loop6 (β : Nat → Int) (t : List Value) (lo hi : Nat) (ex st : Bool) (n c : Nat) (q : K6) (hb : Bytes (row40 β t) 0 n) (hL : q.len ≤ (n : Int)) (s : S6) (f : Fr) (hI : I6 (row40 β t) n q.len s) (hn : f.n = 131) (hd : f.ds = []) (hl : Holds f (live6 n c s)) :
    ∃ f1, STup Tryd.prog 0 body6 rest6 f (h6 (row40 β t) lo hi ex st (f6cells β q s 0) zeroCells 3 2) .ret f1
      (h6 (row40 β t) lo hi ex st (f6cells β q (fin6 (row40 β t) q.len s).1 (hdr6 (fin6 (row40 β t) q.len s))) (f6cells β q (fin6 (row40 β t) q.len s).1 (hdr6 (fin6 (row40 β t) q.len s))) 3 6) ∧ f1.n = 131 ∧ f1.ds = [] ∧
      Holds f1 [(4, ptr2), (5, .int .i64 (fin6 (row40 β t) q.len s).2)] := by
  have hs := hb.small
  refine STup.gotoLoop (P := Tryd.prog) (gl := 0) (D := S6) (body := body6) (rest := rest6) (l := 0) (N := 131) (by decide) (by kernel_rfl) (fun s => (9 - s.nn).toNat) (I6 (row40 β t) n q.len) (live6 n c) (fun s => h6 (row40 β t) lo hi ex st (f6cells β q s 0) zeroCells 3 2)
    (fun s => [(4, ptr2), (5, .int .i64 (fin6 (row40 β t) q.len s).2)]) (fun s => h6 (row40 β t) lo hi ex st (f6cells β q (fin6 (row40 β t) q.len s).1 (hdr6 (fin6 (row40 β t) q.len s))) (f6cells β q (fin6 (row40 β t) q.len s).1 (hdr6 (fin6 (row40 β t) q.len s))) 3 6)
    (fun s f hI => ?_) s f hI hn hd hl
  have hok : (H6 (h6Hints (row40 β t) q s (s.proto == 0) (s.proto == 43) (s.proto == 60) (s.proto == 44) (decide (s.nn ≥ 8)) (decide (q.len - s.at_ < 8)) (decide (q.len - s.at_ < szV (row40 β t) s (s.proto == 44))))).Ok Tryd.prog 0 := rowHints_ok .nil (.cons two_ok .nil)
  cases hk : ext6 s.proto with
  | false =>
    right
    have hk' := hk
    simp only [ext6, Bool.or_eq_false_iff] at hk'
    obtain ⟨⟨⟨k0, k1⟩, k2⟩, k3⟩ := hk'
    have hkp := kindP_self s
    rw [k0, k1, k2, k3] at hkp
    obtain ⟨f1, t1, n1, ds1, hl1⟩ := round_tupH zerosFlat_here mixed_here (rowHints_ok .nil (.cons two_ok .nil)) (r6_end β t lo hi ex st n c q s f) hkp (h6_wf (row40 β t) lo hi ex st (f6cells β q s s.at_) (f6cells β q s s.at_) 3 6 (by decide)) rfl rfl rfl
    rw [fin6_end hk (by have := hI.n1; omega)]
    exact ⟨f1, t1, n1, ds1, hl1⟩
  | true =>
    have hw : ((s.proto == 0) || (s.proto == 43) || (s.proto == 60) || (s.proto == 44)) = true := hk
    have hkp := kindP_self s
    have hlp := limP_all (q := q) (s := s) hI.lo hI.hi (by omega)
    cases he : (decide (s.nn ≥ 8) || decide (q.len - s.at_ < 8) || decide (q.len - s.at_ < szV (row40 β t) s (s.proto == 44))) with
    | true =>
      right
      have hpp : All (errP (row40 β t) n q s (s.proto == 0) (s.proto == 43) (s.proto == 60) (s.proto == 44) (decide (s.nn ≥ 8)) (decide (q.len - s.at_ < 8))) := by
        unfold errP
        refine All.append hkp (All.append hlp ?_)
        cases h12 : (decide (s.nn ≥ 8) || decide (q.len - s.at_ < 8)) with
        | true => exact All.nil
        | false =>
          rw [h12] at he
          simp only [Bool.false_or, decide_eq_true_eq] at he
          simp only [Bool.or_eq_false_iff, decide_eq_false_iff_not] at h12
          have := sizeP_all hb (q := q) (s := s) hI.lo (by omega) hL
          rw [show decide (q.len - s.at_ < szV (row40 β t) s (s.proto == 44)) = true by simpa using he] at this
          rw [is44_self]
          exact this
      obtain ⟨f1, t1, n1, ds1, hl1⟩ := round_tupH zerosFlat_here mixed_here (rowHints_ok .nil (.cons two_ok .nil)) (r6_err β t lo hi ex st n c q s f _ _ _ _ _ _ hw) hpp (h6_wf (row40 β t) lo hi ex st (f6cells β q s 0) (f6cells β q s 0) 3 6 (by decide)) rfl rfl rfl
      rw [fin6_err hk (by have := hI.n1; omega) he]
      exact ⟨f1, t1, n1, ds1, hl1⟩
    | false =>
      left
      have he' := he
      simp only [Bool.or_eq_false_iff, decide_eq_false_iff_not] at he'
      obtain ⟨⟨e1, e2⟩, e3⟩ := he'
      obtain ⟨hI', hnn⟩ := next6 hb hI hL (by omega) e3 (by omega)
      have hsz := sizeP_all hb (q := q) (s := s) hI.lo (by omega) hL
      have hsp : 0 ≤ szV (row40 β t) s (s.proto == 44) := by
        unfold szV
        cases (s.proto == 44)
        · obtain ⟨b1, b2, b3⟩ := byI_bounds hb (i := s.at_ + 1) (by have := hI.lo; omega) (by omega)
          show 0 ≤ sizeX (row40 β t) s
          unfold sizeX; omega
        · show (0 : Int) ≤ 8; decide
      have hst := stepP_all hb (q := q) (s := s) hI.lo (by omega) hL (by omega) hsp hI.n0 hI.n1
      have d1 : decide (s.nn ≥ 8) = false := by simpa using e1
      have d2 : decide (q.len - s.at_ < 8) = false := by simpa using e2
      have d3 : decide (q.len - s.at_ < szV (row40 β t) s (s.proto == 44)) = false := by simpa using e3
      rw [d1, d2] at hlp
      rw [d3] at hsz
      obtain ⟨f1, t1, n1, ds1, hl1⟩ := round_tupH zerosFlat_here mixed_here (rowHints_ok .nil (.cons two_ok .nil)) (r6_next β t lo hi ex st n c q s f _ _ _ _ hw) (All.append hkp (All.append hlp (All.append (by rw [is44_self]; exact hsz) (by rw [is44_self]; exact hst))))
        (h6_wf (row40 β t) lo hi ex st (f6cells β q (nextV (row40 β t) s (is44 (s.proto == 0) (s.proto == 43) (s.proto == 60) (s.proto == 44))) 0) zeroCells 3 2 (by decide)) rfl rfl rfl
      rw [is44_self] at t1 hl1
      refine ⟨f1, nextV (row40 β t) s (s.proto == 44), t1, n1, ds1, ?_, hI', ?_, ?_, ?_⟩
      · obtain ⟨g1, g2, g3, g4, g5, g6, _⟩ := hl1
        refine ⟨g1, g2, g3, g4, g5, ?_, trivial⟩
        rw [hnn]; exact g6
      · show (9 - (nextV (row40 β t) s (s.proto == 44)).nn).toNat < (9 - s.nn).toNat
        rw [hnn]; have := hI.n1; have := hI.n0; omega
      · rw [fin6_next hk hI.n0 (by omega) he hnn]
      · rw [fin6_next hk hI.n0 (by omega) he hnn]
end Go.Proofs.YtnfijnioclcnmaaDoor
