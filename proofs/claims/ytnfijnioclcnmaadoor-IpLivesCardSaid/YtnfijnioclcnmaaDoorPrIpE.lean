/- IP: the headers of a packet of IPv6, as one call. -/
import Derived.Test.YtnfijnioclcnmaaDoorPrIpD
namespace Go.Proofs.YtnfijnioclcnmaaDoor
open Go Go.RowKit Go.Ev
noncomputable def head6 : Code := match Tryd.f14.body with
  | some (.seq r _) => r
  | _ => .skip
theorem f14_body : Tryd.f14.body = some (.seq head6 (.scope body6)) := by kernel_rfl
theorem f14_at : Tryd.prog.funcs[14]? = some Tryd.f14 := by kernel_rfl
theorem f14_tmps : Tryd.f14.ntmps = 131 := by kernel_rfl
theorem r6_head (cs : List Value) (lo hi : Nat) (ex st : Bool) (n c : Nat) :
    roundOutH [0, 1, 2, 4, 5] [0, 1, 2] ((runHR Tryd.prog 0 (H6 []) 40).1 14 head6 { t := ofArgs [.agg ⟨init6⟩, pSl n c] 0 .nil, n := 131 } (rowH cs 5 lo hi ex st 0)) =
    some (.normal, [.agg ⟨init6⟩, pSl n c, ptr1, ptr2, .int .i64 0], 131, (3, 0, 0), [some (.cells cs 5 lo hi ex st), some (.cells init6 25 0 0 true false), some (.cells zeroCells 25 0 0 true false)], []) := by kernel_rfl
theorem r6_leave (cs box : List Value) (lo hi : Nat) (ex st : Bool) (e : Int) (f : Fr) (β : Nat → Int) (q : K6) (s : S6) (h : Int) (rd wr : Nat) :
    (leaveA Tryd.prog (fun _ _ _ _ => none) Tryd.f14 (canonF 131 [(4, ptr2), (5, .int .i64 e)] f).get [] .ret (h6 cs lo hi ex st box (f6cells β q s h) rd wr)).map (fun x => (x.1, x.2.wr.testBit 0)) = some (.ret (.tuple #[.agg ⟨f6cells β q s h⟩, .int .i64 e]), wr.testBit 0) := by kernel_rfl

/-! ### what it gives -/

def bad6 (cs : List Value) (n : Nat) : Bool := decide ((n : Int) < 40) || decide ((n : Int) < len6V cs)
def res6 (cs : List Value) : S6 × Int := fin6 cs (len6V cs) (s6 (byteAt cs))
def β6 (cs : List Value) (n : Nat) : Nat → Int := bif bad6 cs n then fun _ => 0 else byteAt cs
def k6 (cs : List Value) (n : Nat) : K6 := bif decide ((n : Int) < 40) then ⟨0, 0, 0, 0⟩ else bif decide ((n : Int) < len6V cs) then ⟨0, 0, len6V cs, 0⟩ else q6 cs (byteAt cs)
def t6 (cs : List Value) (n : Nat) : S6 := bif bad6 cs n then ⟨0, 0, 0, 0, 0, false⟩ else (res6 cs).1
def hd6 (cs : List Value) (n : Nat) : Int := bif bad6 cs n then 0 else hdr6 (res6 cs)
def er6 (cs : List Value) (n : Nat) : Int := bif bad6 cs n then 8 else (res6 cs).2
def cells6 (cs : List Value) (n : Nat) : List Value := f6cells (β6 cs n) (k6 cs n) (t6 cs n) (hd6 cs n)
theorem len6_cells (l : Int) : len6 l = f6cells (fun _ => 0) ⟨0, 0, l, 0⟩ ⟨0, 0, 0, 0, 0, false⟩ 0 := by rfl
theorem init6_cells : init6 = f6cells (fun _ => 0) ⟨0, 0, 0, 0⟩ ⟨0, 0, 0, 0, 0, false⟩ 0 := by rfl
abbrev Body6 (cs : List Value) (lo hi : Nat) (ex st : Bool) (f : Fr) (cl : List Value) (er : Int) : Prop :=
  ∃ f1 box rd wr, LTup Tryd.prog 0 (.scope body6) f (h6 cs lo hi ex st init6 zeroCells 0 0) .ret f1 (h6 cs lo hi ex st box cl rd wr) ∧ f1.n = 131 ∧ f1.ds = [] ∧ Holds f1 [(4, ptr2), (5, .int .i64 er)] ∧ wr.testBit 0 = false
theorem body6_short (cs : List Value) (lo hi : Nat) (ex st : Bool) (n c : Nat) (f : Fr) (hn : f.n = 131) (hd : f.ds = []) (hl : Holds f (start6 n c)) (h : (n : Int) < 40) : Body6 cs lo hi ex st f init6 8 := by
  obtain ⟨f1, t, n1, ds1, hl1⟩ := round_tupH zerosFlat_here mixed_here (rowHints_ok .nil (.cons two_ok .nil)) (p6_short cs lo hi ex st n c (byteAt cs) f) (All.cons (by simpa using h) All.nil) (h6_wf cs lo hi ex st init6 init6 2 4 (by decide)) rfl rfl rfl
  exact ⟨f1, _, _, _, STup.scope (STup.ret (LTup.start (canonF_eq (by decide) hn hd hl) t)), n1, ds1, hl1, rfl⟩
theorem body6_cut (cs : List Value) (lo hi : Nat) (ex st : Bool) (n c : Nat) (f : Fr) (hn : f.n = 131) (hd : f.ds = []) (hl : Holds f (start6 n c)) (hb : Bytes cs 0 n) (h : ¬ (n : Int) < 40) (h' : (n : Int) < len6V cs) : Body6 cs lo hi ex st f (len6 (len6V cs)) 8 := by
  obtain ⟨a0, a1⟩ := twoV_bounds hb (i := 4) (by omega) (by omega)
  obtain ⟨f1, t, n1, ds1, hl1⟩ := round_tupH zerosFlat_here mixed_here (rowHints_ok .nil (.cons two_ok .nil)) (p6_cut cs lo hi ex st n c (byteAt cs) f) (All.cons (by simpa using h) (All.cons ⟨hb, by omega, by omega⟩ (All.cons (wrap_in (by omega) (by omega)) (All.cons (by simpa using h') All.nil)))) (h6_wf cs lo hi ex st (len6 (len6V cs)) (len6 (len6V cs)) 3 6 (by decide)) rfl rfl rfl
  exact ⟨f1, _, _, _, STup.scope (STup.ret (LTup.start (canonF_eq (by decide) hn hd hl) t)), n1, ds1, hl1, rfl⟩
theorem band8_low {b : Int} (h0 : 0 ≤ b) (h1 : b < 256) : band8 b 15 = b % 16 := by
  have h : ∀ k : Fin 256, band8 (k.val : Int) 15 = (k.val : Int) % 16 := by decide +kernel
  have := h ⟨b.toNat, by omega⟩
  simpa [Int.toNat_of_nonneg h0] using this
theorem p6P_all {cs : List Value} {n c : Nat} (hb : Bytes cs 0 n) (hc : n ≤ c) (h : ¬ (n : Int) < 40) (h' : ¬ (n : Int) < len6V cs) : All (p6P cs (byteAt cs) n c) := by
  have hs := hb.small
  have hβ : ∀ k : Nat, k < 40 → 0 ≤ byteAt cs k ∧ byteAt cs k < 256 := fun k hk => by
    have h1 := hb.lo k (by omega); have h2 := hb.hi k (by omega)
    rw [Nat.zero_add] at h1 h2; exact ⟨h1, h2⟩
  obtain ⟨a0, a1⟩ := twoV_bounds hb (i := 4) (by omega) (by omega)
  obtain ⟨b0, b1⟩ := twoV_bounds hb (i := 0) (by omega) (by omega)
  obtain ⟨d0, d1⟩ := twoV_bounds hb (i := 2) (by omega) (by omega)
  obtain ⟨e0, e1⟩ := hβ 1 (by omega)
  obtain ⟨f0, f1⟩ := hβ 6 (by omega)
  obtain ⟨g0, g1⟩ := hβ 7 (by omega)
  have e16 : (2 : Int) ^ 16 = 65536 := by decide
  unfold p6P
  refine All.cons (by simpa using h) (All.cons ⟨hb, by omega, by omega⟩ (All.cons (wrap_in (by omega) (by omega)) (All.cons (by simpa using h') (All.cons ⟨hb, by omega, by omega⟩ (All.cons ?_ (All.cons (band_mask 8 (by decide) (by omega) (by omega)) (All.cons (by omega) (All.cons (band8_low e0 e1) (All.cons (wrap_in (by omega) (by omega)) (All.cons ?_ (All.cons ⟨hb, by omega, by omega⟩ (All.cons ?_ (All.cons (by omega) (All.cons (wrap_in (by omega) (by omega)) (All.cons (by omega) (All.cons (wrap_in (by omega) (by omega)) (All.cons hc (All.cons trivial (All.cons (by omega) (All.cons (by omega) (All.cons (by simp; omega) (All.cons hc (All.cons trivial (All.cons (by omega) (All.cons (by omega) (All.cons (by simp; omega) All.nil))))))))))))))))))))))))))
  · rw [Int.fdiv_eq_ediv_of_nonneg _ (by decide)]; rfl
  · rw [e16]; exact wrap_in (by omega) (by omega)
  · have := bor_add (a := byteAt cs 1 % 16) (b := twoV cs 0 2) 16 (by omega) d0 (by rw [e16]; exact d1) (by rw [e16]; omega)
    rw [e16] at this
    exact this
theorem body6_far (β : Nat → Int) (t : List Value) (lo hi : Nat) (ex st : Bool) (n c : Nat) (f : Fr) (hn : f.n = 131) (hd : f.ds = []) (hl : Holds f (start6 n c)) (hb : Bytes (row40 β t) 0 n) (hp : All (p6P (row40 β t) β n c)) (h6b : 0 ≤ β 6 ∧ β 6 < 256) (h : ¬ (n : Int) < 40) (h' : ¬ (n : Int) < len6V (row40 β t)) :
    Body6 (row40 β t) lo hi ex st f (f6cells β (q6 (row40 β t) β) (fin6 (row40 β t) (len6V (row40 β t)) (s6 β)).1 (hdr6 (fin6 (row40 β t) (len6V (row40 β t)) (s6 β)))) (fin6 (row40 β t) (len6V (row40 β t)) (s6 β)).2 := by
  have hs := hb.small
  have hL : (q6 (row40 β t) β).len ≤ (n : Int) := by show len6V (row40 β t) ≤ _; omega
  obtain ⟨a0, a1⟩ := twoV_bounds hb (i := 4) (by omega) (by omega)
  have hL0 : 40 ≤ (q6 (row40 β t) β).len := by show 40 ≤ 40 + twoV (row40 β t) 0 4; omega
  have hI : I6 (row40 β t) n (q6 (row40 β t) β).len (s6 β) := ⟨Int.le_refl 40, hL0, Int.le_refl 0, (show (0 : Int) ≤ 8 by decide), h6b.1, h6b.2⟩
  have he := canonF_eq (N := 131) (by decide) hn hd hl
  have hi0 := hI.lo
  cases hk : ext6 (s6 β).proto with
  | false =>
    have hk' := hk
    simp only [ext6, Bool.or_eq_false_iff] at hk'
    obtain ⟨⟨⟨k0, k1⟩, k2⟩, k3⟩ := hk'
    have hkp := kindP_self (s6 β)
    rw [k0, k1, k2, k3] at hkp
    obtain ⟨f1, t1, n1, ds1, hl1⟩ := round_tupH zerosFlat_here mixed_here (rowHints_ok .nil (.cons two_ok .nil)) (p6_end β t lo hi ex st n c f) (All.append hp hkp) (h6_wf (row40 β t) lo hi ex st (f6cells β (q6 (row40 β t) β) (s6 β) 40) (f6cells β (q6 (row40 β t) β) (s6 β) 40) 3 6 (by decide)) rfl rfl rfl
    rw [fin6_end hk (show (0 : Int).toNat < 9 by decide)]
    exact ⟨f1, _, _, _, STup.scope (STup.ret (LTup.start he t1)), n1, ds1, hl1, rfl⟩
  | true =>
    have hw : (((s6 β).proto == 0) || ((s6 β).proto == 43) || ((s6 β).proto == 60) || ((s6 β).proto == 44)) = true := hk
    have hkp := kindP_self (s6 β)
    have hlp := limP_all (q := q6 (row40 β t) β) (s := s6 β) hI.lo hI.hi (by omega)
    cases hh : (decide ((s6 β).nn ≥ 8) || decide ((q6 (row40 β t) β).len - (s6 β).at_ < 8) || decide ((q6 (row40 β t) β).len - (s6 β).at_ < szV (row40 β t) (s6 β) ((s6 β).proto == 44))) with
    | true =>
      have hpp : All (errP (row40 β t) n (q6 (row40 β t) β) (s6 β) ((s6 β).proto == 0) ((s6 β).proto == 43) ((s6 β).proto == 60) ((s6 β).proto == 44) false (decide ((q6 (row40 β t) β).len - (s6 β).at_ < 8))) := by
        unfold errP
        refine All.append hkp (All.append hlp ?_)
        cases h12 : (decide ((s6 β).nn ≥ 8) || decide ((q6 (row40 β t) β).len - (s6 β).at_ < 8)) with
        | true =>
          have : (false || decide ((q6 (row40 β t) β).len - (s6 β).at_ < 8)) = true := h12
          rw [this]; exact All.nil
        | false =>
          have h12' : (false || decide ((q6 (row40 β t) β).len - (s6 β).at_ < 8)) = false := h12
          rw [h12'] at *
          rw [h12] at hh
          simp only [Bool.false_or, decide_eq_true_eq] at hh
          simp only [Bool.or_eq_false_iff, decide_eq_false_iff_not] at h12
          have := sizeP_all hb (q := q6 (row40 β t) β) (s := s6 β) hI.lo (by omega) hL
          rw [show decide ((q6 (row40 β t) β).len - (s6 β).at_ < szV (row40 β t) (s6 β) ((s6 β).proto == 44)) = true by simpa using hh] at this
          rw [is44_self]
          exact this
      obtain ⟨f1, t1, n1, ds1, hl1⟩ := round_tupH zerosFlat_here mixed_here (rowHints_ok .nil (.cons two_ok .nil)) (p6_err β t lo hi ex st n c f _ _ _ _ _ hw) (All.append hp hpp) (h6_wf (row40 β t) lo hi ex st (f6cells β (q6 (row40 β t) β) (s6 β) 0) (f6cells β (q6 (row40 β t) β) (s6 β) 0) 3 6 (by decide)) rfl rfl rfl
      rw [fin6_err (L := len6V (row40 β t)) hk (show (0 : Int).toNat < 9 by decide) hh]
      exact ⟨f1, _, _, _, STup.scope (STup.ret (LTup.start he t1)), n1, ds1, hl1, rfl⟩
    | false =>
      have he' := hh
      simp only [Bool.or_eq_false_iff, decide_eq_false_iff_not] at he'
      obtain ⟨⟨e1, e2⟩, e3⟩ := he'
      obtain ⟨hI', hnn⟩ := next6 hb hI hL (by omega) e3 (show (0 : Int) < 8 by decide)
      have hsz := sizeP_all hb (q := q6 (row40 β t) β) (s := s6 β) hI.lo (by omega) hL
      have hsp : 0 ≤ szV (row40 β t) (s6 β) ((s6 β).proto == 44) := by
        unfold szV
        cases ((s6 β).proto == 44)
        · obtain ⟨b1, b2, b3⟩ := byI_bounds hb (i := (s6 β).at_ + 1) (by have := hI.lo; omega) (by omega)
          show 0 ≤ sizeX (row40 β t) (s6 β)
          unfold sizeX; omega
        · show (0 : Int) ≤ 8; decide
      have hst := stepP_all hb (q := q6 (row40 β t) β) (s := s6 β) hI.lo (by omega) hL (by omega) hsp hI.n0 hI.n1
      have d2 : decide ((q6 (row40 β t) β).len - (s6 β).at_ < 8) = false := by simpa using e2
      have d3 : decide ((q6 (row40 β t) β).len - (s6 β).at_ < szV (row40 β t) (s6 β) ((s6 β).proto == 44)) = false := by simpa using e3
      have d1 : decide ((s6 β).nn ≥ 8) = false := rfl
      rw [d1, d2] at hlp
      rw [d3] at hsz
      obtain ⟨f1, t1, n1, ds1, hl1⟩ := round_tupH zerosFlat_here mixed_here (rowHints_ok .nil (.cons two_ok .nil)) (p6_next β t lo hi ex st n c f _ _ _ _ hw) (All.append hp (All.append hkp (All.append hlp (All.append (by rw [is44_self]; exact hsz) (by rw [is44_self]; exact hst)))))
        (h6_wf (row40 β t) lo hi ex st (f6cells β (q6 (row40 β t) β) (nextV (row40 β t) (s6 β) (is44 ((s6 β).proto == 0) ((s6 β).proto == 43) ((s6 β).proto == 60) ((s6 β).proto == 44))) 0) zeroCells 3 2 (by decide)) rfl rfl rfl
      rw [is44_self] at t1 hl1
      have hl2 : Holds f1 (live6 n c (nextV (row40 β t) (s6 β) ((s6 β).proto == 44))) := by
        obtain ⟨g1, g2, g3, g4, g5, g6, _⟩ := hl1
        refine ⟨g1, g2, g3, g4, g5, ?_, trivial⟩
        rw [hnn]; exact g6
      obtain ⟨f2, t2, n2, ds2, hl2⟩ := loop6 β t lo hi ex st n c (q6 (row40 β t) β) hb hL _ f1 hI' n1 ds1 hl2
      rw [fin6_next (L := len6V (row40 β t)) hk hI.n0 (show (0 : Int) < 8 by decide) hh hnn]
      exact ⟨f2, _, _, _, STup.scope (STup.goto (by kernel_rfl) (LTup.start he t1) t2), n2, ds2, hl2, rfl⟩
theorem body6_all (cs : List Value) (lo hi : Nat) (ex st : Bool) (n c : Nat) (f : Fr) (hn : f.n = 131) (hd : f.ds = []) (hl : Holds f (start6 n c)) (hb : Bytes cs 0 n) (hc : n ≤ c) : Body6 cs lo hi ex st f (cells6 cs n) (er6 cs n) := by
  by_cases h : (n : Int) < 40
  · have e1 : bad6 cs n = true := by simp [bad6, h]
    have e2 : cells6 cs n = init6 := by rw [init6_cells]; simp [cells6, β6, k6, t6, hd6, e1, h]
    have e3 : er6 cs n = 8 := by simp [er6, e1]
    rw [e2, e3]
    exact body6_short cs lo hi ex st n c f hn hd hl h
  · by_cases h' : (n : Int) < len6V cs
    · have e1 : bad6 cs n = true := by simp [bad6, h']
      have e2 : cells6 cs n = len6 (len6V cs) := by rw [len6_cells]; simp [cells6, β6, k6, t6, hd6, e1, h, h']
      have e3 : er6 cs n = 8 := by simp [er6, e1]
      rw [e2, e3]
      exact body6_cut cs lo hi ex st n c f hn hd hl hb h h'
    · have e1 : bad6 cs n = false := by simp [bad6, h, h']
      have e2 : cells6 cs n = f6cells (byteAt cs) (q6 cs (byteAt cs)) (res6 cs).1 (hdr6 (res6 cs)) := by simp [cells6, β6, k6, t6, hd6, e1, h, h']
      have e3 : er6 cs n = (res6 cs).2 := by simp [er6, e1]
      rw [e2, e3]
      have hr := row40_eq hb (by omega)
      have hp := p6P_all hb hc h h'
      have h6b : 0 ≤ byteAt cs 6 ∧ byteAt cs 6 < 256 := by
        have h1 := hb.lo 6 (by omega); have h2 := hb.hi 6 (by omega)
        rw [Nat.zero_add] at h1 h2; exact ⟨h1, h2⟩
      have := body6_far (byteAt cs) (cs.drop 40) lo hi ex st n c f hn hd hl (by rw [hr]; exact hb) (by rw [hr]; exact hp) h6b h (by rw [hr]; exact h')
      rw [hr] at this
      exact this
def v6Fn : RowFn := fun front cs e off n c rest => match front, rest with
  | [.agg l], [] => some (.tuple #[.agg ⟨cells6 cs n⟩, .int .i64 (er6 cs n)], [l = ⟨init6⟩, e = 5, off = 0, n ≤ c, Bytes cs 0 n])
  | _, _ => none
theorem v6_ok : RowOk Tryd.prog 14 v6Fn := by
  intro front cs e lo hi ex st off n c rest v pre hfn hp h id hg
  unfold v6Fn at hfn
  split at hfn
  · rename_i l
    cases hfn
    have hl : l = ⟨init6⟩ := hp _ (by simp)
    have he : e = 5 := hp _ (by simp)
    have ho : off = 0 := hp _ (by simp)
    have hc : n ≤ c := hp _ (by simp)
    have hb : Bytes cs 0 n := hp _ (by simp)
    subst hl he ho
    obtain ⟨f1, t1, n1, ds1, hl1⟩ := round_tupH zerosFlat_here mixed_here (rowHints_ok .nil (.cons two_ok .nil)) (r6_head cs lo hi ex st n c) All.nil (h6_wf cs lo hi ex st init6 zeroCells 0 0 (by decide)) rfl rfl rfl
    obtain ⟨f2, box, rd, wr, t2, n2, ds2, hl2, hw⟩ := body6_all cs lo hi ex st n c f1 n1 ds1 hl1 hb hc
    have hlv := r6_leave cs box lo hi ex st (er6 cs n) f2 (β6 cs n) (k6 cs n) (t6 cs n) (hd6 cs n) rd wr
    have hfe := canonF_eq (N := 131) (by decide) n2 ds2 hl2
    cases hx : leaveA Tryd.prog (fun _ _ _ _ => none) Tryd.f14 (canonF 131 [(4, ptr2), (5, .int .i64 (er6 cs n))] f2).get [] .ret (h6 cs lo hi ex st box (f6cells (β6 cs n) (k6 cs n) (t6 cs n) (hd6 cs n)) rd wr) with
    | none => rw [hx] at hlv; cases hlv
    | some x =>
      obtain ⟨en, h2⟩ := x
      rw [hx] at hlv
      simp only [Option.map_some, Option.some.injEq, Prod.mk.injEq] at hlv
      obtain ⟨rfl, hw2⟩ := hlv
      have ct : CTup Tryd.prog 0 14 ([.agg ⟨init6⟩] ++ pSl n c :: []) (rowH cs 5 lo hi ex st 0) (.ret (.tuple #[.agg ⟨cells6 cs n⟩, .int .i64 (er6 cs n)])) h2 :=
        CTup.of_body f14_at f14_body (by rw [f14_tmps]; rfl) (LTup.seq (by rw [f14_tmps]; exact t1) (LTup.end_ hfe t2)) hx
      exact ct.row rfl rfl rfl hb.flat (hw2.trans hw) hg
  · cases hfn
end Go.Proofs.YtnfijnioclcnmaaDoor
