/- Meter: loss and gain lie where they must: the whole call. -/
import Derived.Test.YthidmnghdoipiaaDoorPrMbC
import Derived.Test.YthidmnghdoipiaaDoorKit14
namespace Go.Proofs.YthidmnghdoipiaaDoor
open Go Go.RowKit Go.Ev
theorem All.append {ps qs : List Prop} (h : All ps) (h' : All qs) : All (ps ++ qs) := fun p hp => (List.mem_append.1 hp).elim (h p) (h' p)
theorem All.nil : All [] := fun _ h => (by cases h)
theorem All.cons {p : Prop} {ps : List Prop} (h : p) (h' : All ps) : All (p :: ps) := fun q hq => by
  rcases List.mem_cons.1 hq with rfl | hq
  · exact h
  · exact h' q hq
theorem w_in {x : Int} (h0 : -9223372036854775808 ≤ x) (h1 : x < 9223372036854775808) : W64 x = x := wrap_in h0 h1
/-- What holds of one way. -/
structure WyOk (X : Wy) : Prop where
  p0 : 0 ≤ X.p
  p1 : X.p ≤ most
  b0 : 0 ≤ X.b
  b1 : X.b ≤ most
  w0 : 0 ≤ X.w
  w1 : X.w ≤ most
  l0 : 0 ≤ X.l
  l1 : X.l ≤ most
  s0 : 0 ≤ X.s
  s1 : X.s ≤ X.b
structure Ok (A B : Wy) : Prop where
  a : WyOk A
  b : WyOk B
theorem Ok.way {A B : Wy} (h : Ok A B) (o : Bool) : WyOk (sel o A B) := by
  cases o
  · exact h.a
  · exact h.b
theorem Ok.put {A B : Wy} (h : Ok A B) (o : Bool) {F : Wy → Wy} (hX : WyOk (F (sel o A B))) : Ok (putA o A (F A)) (putB o B (F B)) := by
  cases o
  · exact ⟨hX, h.b⟩
  · exact ⟨h.a, hX⟩
theorem two_ways (A B C D : Wy) : twoEq Tryd.prog 8 40 (.agg ⟨waysL A B⟩) (.agg ⟨waysL C D⟩) =
    some ((A.p == C.p && (A.b == C.b && (A.w == C.w && (A.l == C.l && true)))) && ((B.p == D.p && (B.b == D.b && (B.w == D.w && (B.l == D.l && true)))) && true)) := by kernel_rfl
theorem differ (o : Bool) (A B : Wy) (x y : Int) : twoEq Tryd.prog 8 40 (.agg ⟨waysL (putA o A (more A x y)) (putB o B (more B x y))⟩) (.agg ⟨waysL A B⟩) = some false := by
  rw [two_ways]
  cases o
  · simp [more]; omega
  · simp [more]; omega

/-! ### what is told of a way -/

theorem rat_of {a b r : Nat} (h : floatBits .quo .f64 a b = some r) (hn : nanB r = false) : ratF a b = r := by
  unfold ratF valF
  rw [h]
  show toldF r = r
  unfold toldF
  rw [hn]; rfl
theorem rat_le {a b : Nat} (hb : b ≠ 0) (h : a ≤ b) (hs : b < 9223372036854775808) : nanB (ratF (fI (a : Int)) (fI (b : Int))) = false ∧ (cmpF (ratF (fI (a : Int)) (fI (b : Int))) 0 == some .lt) = false ∧ (cmpF (ratF (fI (a : Int)) (fI (b : Int))) oneF == some .gt) = false := by
  by_cases ha : a = 0
  · subst ha
    have hq : floatBits .quo .f64 (fI ((0 : Nat) : Int)) (fI (b : Int)) = some 0 := by
      have hz : Ieee.double.read (fI ((0 : Nat) : Int)) = .number false 0 (-1074) := by
        rw [show fI ((0 : Nat) : Int) = 0 from ofInt_zero]
        decide +kernel
      have e0 : FloatKind.f64.format = Ieee.double := rfl
      have hrb : Ieee.double.read (fI (b : Int)) = _ := ofInt_read hb hs
      unfold floatBits
      simp only [Ieee.Format.div, e0]
      rw [hz, hrb]
      unfold Ieee.Datum.quotient
      simp only []
      rw [if_neg (by omega), Nat.zero_shiftLeft, Nat.zero_div, Nat.zero_mod]
      rfl
    have hw := word_le (r := 0) (by omega)
    have h0 : Ieee.double.word false 0 = 0 := rfl
    rw [h0] at hw
    rw [rat_of hq hw.1]
    exact hw
  · obtain ⟨r, hr, hq⟩ := quo_le ha h hs
    have hw := word_le hr
    rw [rat_of hq hw.1]
    exact hw
theorem rat_neg {d b : Nat} (hd : d ≠ 0) (hs : d < 9223372036854775808) (hb : b < 9223372036854775808) : nanB (ratF (fI (-(d : Int))) (fI (b : Int))) = false ∧ (cmpF (ratF (fI (-(d : Int))) (fI (b : Int))) oneF == some .gt) = false := by
  obtain ⟨r, hr, hq⟩ := quo_neg hd hs hb
  have hw := word_neg hr
  rw [rat_of hq hw.1]
  exact hw
theorem rat_none : ratF (fI 0) (fI 0) = qnan := by decide +kernel
theorem nan_cmp : nanB qnan = true ∧ (cmpF qnan 0 == some .lt) = false ∧ (cmpF qnan oneF == some .gt) = false := by
  refine ⟨nan_qnan, ?_, ?_⟩ <;> decide +kernel
theorem tail_all {X : Wy} (h : WyOk X) : ∃ nl b0 c0, All (tailP X nl b0 c0) := by
  obtain ⟨p0, p1, b0, b1, w0, w1, l0, l1, _, _⟩ := h
  unfold most at p1 b1 w1 l1
  obtain ⟨P, hP⟩ : ∃ n : Nat, X.p = (n : Int) := ⟨X.p.toNat, by omega⟩
  obtain ⟨B, hB⟩ : ∃ n : Nat, X.b = (n : Int) := ⟨X.b.toNat, by omega⟩
  obtain ⟨V, hV⟩ : ∃ n : Nat, X.w = (n : Int) := ⟨X.w.toNat, by omega⟩
  obtain ⟨L, hL⟩ : ∃ n : Nat, X.l = (n : Int) := ⟨X.l.toNat, by omega⟩
  have hloss : nanB (lossV X) = (X.p + X.l == 0) ∧ (cmpF (lossV X) 0 == some .lt) = false ∧ (cmpF (lossV X) oneF == some .gt) = false := by
    unfold lossV
    rw [hL, hP]
    by_cases hz : P + L = 0
    · have e1 : P = 0 := by omega
      have e2 : L = 0 := by omega
      subst e1 e2
      rw [show ((0 : Nat) : Int) + ((0 : Nat) : Int) = 0 from rfl, show ((0 : Nat) : Int) = 0 from rfl, rat_none]
      exact nan_cmp
    · have hne : (((P : Int) + (L : Int)) == 0) = false := by
        rw [beq_eq_false_iff_ne]
        omega
      rw [hne, show (L : Int) + (P : Int) = ((L + P : Nat) : Int) by omega]
      exact rat_le (by omega) (by omega) (by omega)
  have hgain : nanB (gainV X) = (X.b == 0 && X.w == 0) ∧ (cmpF (gainV X) oneF == some .gt) = false := by
    unfold gainV
    rw [hB, hV]
    by_cases hle : V ≤ B
    · rw [show (B : Int) - (V : Int) = ((B - V : Nat) : Int) by omega]
      by_cases hz : B = 0
      · have e2 : V = 0 := by omega
        subst hz e2
        rw [show ((0 - 0 : Nat) : Int) = 0 from rfl, rat_none]
        exact ⟨nan_cmp.1, nan_cmp.2.2⟩
      · have hne : ((B : Int) == 0) = false := by
          rw [beq_eq_false_iff_ne]
          omega
        rw [hne]
        have := rat_le (a := B - V) (b := B) hz (by omega) (by omega)
        exact ⟨this.1, this.2.2⟩
    · rw [show (B : Int) - (V : Int) = -((V - B : Nat) : Int) by omega]
      have hne : ((V : Int) == 0) = false := by
        rw [beq_eq_false_iff_ne]
        omega
      rw [hne, Bool.and_false]
      exact rat_neg (by omega) (by omega) (by omega)
  refine ⟨X.p + X.l == 0, X.b == 0, X.w == 0, ?_⟩
  unfold tailP
  refine All.append (All.cons (w_in (by omega) (by omega)) (All.cons (w_in (by omega) (by omega)) (All.cons hloss.1 (All.cons (w_in (by omega) (by omega)) (All.cons rfl (All.cons hloss.2.1 (All.cons hloss.2.2 (All.cons hgain.1 (All.cons rfl All.nil))))))))) (All.append ?_ (All.cons hgain.2 All.nil))
  cases (X.b == 0)
  · exact All.nil
  · exact All.cons rfl All.nil

/-! ### the rounds -/

abbrev objM (cs : List Value) (A B : Wy) : List (Option AObj) := [viewO cs, mO (mC 0 A B)]
theorem s86 : small 86 = true := rfl
abbrev endM (m : Nat) (W : World) : WPost := fun ex a' w' => (ex = .ret ∨ ex = .normal) ∧ ∃ live' obj', (4, .bool true) ∈ live' ∧ Here Tryd.prog m W 86 live' obj' a' w'
section
variable {P : Program}
theorem here_pad {m N : Nat} {W : World} {live : List (Nat × Value)} {a : Act} {w : World} (hs : Here P m W N live [] a w) : Here P m W N live [none] a w := by
  obtain ⟨κ, G, f, s⟩ := hs
  refine ⟨κ, G, f, s.rel, s.fr, s.n, s.ds, s.df, s.holds, fun id hid => ?_, fun id hid hid' => s.free id (Nat.zero_le _) hid', s.own, s.below⟩
  have h0 : id = 0 := by simp at hid; exact hid
  subst h0
  exact (s.free 0 (Nat.le_refl _) (by unfold BIG; omega)).1
end
/-- What stands in the row of acts. -/
def Ops (cs : List Value) (n : Nat) : Prop := ∀ k, k < n → ∃ K o x y z, at5 (k : Int) + 5 ≤ cs.length ∧ takeL cs (at5 (k : Int)) 5 = opL K o x y z
section
variable {W : World} {cs : List Value} {n c : Nat} {q : Bool}
theorem flat_objs {m : Nat} {o0 : Option AObj} (h0 : ObjOk (List.range 2) o0 o0) (A B : Wy) (j : Nat) (hj : j < 2) (_hm : m = m) : ObjOk (List.range 2) (objAt [o0, mO (mC 0 A B)] j) (objAt [o0, mO (mC 0 A B)] j) := by
  rcases (by omega : j = 0 ∨ j = 1) with rfl | rfl
  · exact h0
  · exact .inl ⟨rfl, rfl⟩
/-- The act of one round. -/
theorem act_all (hcs : flatL cs = true) {k : Nat} {K x y z : Int} {o : Bool} {A B : Wy} (hI : Ok A B) (hg : All (goP cs n (k : Int) K o x y z)) {a : Act} {w : World}
    (hs : Here Tryd.prog 1 W 86 (liveM n c q (k : Int)) (objM cs A B) a w) (Q0 : WPost)
    (hq : ∀ A' B' a' w', Ok A' B' → Here Tryd.prog 1 W 86 (liveM n c q (k : Int)) (objM cs A' B') a' w' → Q0 .normal a' w') : workM.wp Tryd.prog Q0 a w := by
  have go : ∀ {A' B' : Wy} {n1 : Nat}, Ok A' B' → 2 ≤ n1 → n1 ≤ 100 → rhoOk 1 n1 (List.range 2) = true → SegG Tryd.prog 1 86 (codeW Tryd.prog workM) (liveM n c q (k : Int)) (objM cs A B) .normal (liveM n c q (k : Int)) (objM cs A' B') n1 → workM.wp Tryd.prog Q0 a w := by
    intro A' B' n1 hI' h3 h100 hr sg
    exact Here.segK (F := codeW Tryd.prog workM) s86 sg (fun _ _ h => ExR.normal_only h) (by unfold BIG; simp) h3 (by unfold BIG; omega) hr (fun j hj => flat_objs (m := 0) (o0 := viewO cs) (.inl ⟨rfl, hcs⟩) A' B' j hj rfl) rfl rfl hs fun a1 w1 hs1 => hq A' B' a1 w1 hI' hs1
  have hX := hI.way o
  obtain ⟨p0, p1, b0, b1, w0, w1, l0, l1, s0, s1⟩ := hX
  unfold most at p1 b1 w1 l1
  by_cases hK0 : K = 0
  · have hk : All [(K == 0) = true] := All.cons (by simp [hK0]) All.nil
    have argE : ∀ a1 a2 a3 : Bool, All (argP x y a1 a2 a3 true) → workM.wp Tryd.prog Q0 a w := fun a1 a2 a3 hp =>
      go (n1 := 3) hI (by omega) (by omega) rfl (seg_runG (m := 1) zerosFlat_here mixed_here (mpH_ok _) s86 (fun f => m_arg cs n c (k : Int) K x y z q o a1 a2 a3 A B f) (All.append hg (All.append hk hp)) rfl rfl)
    by_cases x0 : x < 0
    · exact argE true false false (All.cons (by simpa using x0) All.nil)
    by_cases x1 : x > much
    · exact argE false true false (All.cons (by simpa using x0) (All.cons (by simpa using x1) All.nil))
    by_cases y0 : y < 0
    · exact argE false false true (All.cons (by simpa using x0) (All.cons (by simpa using x1) (All.cons (by simpa using y0) All.nil)))
    by_cases y1 : y > much
    · exact argE false false false (All.cons (by simpa using x0) (All.cons (by simpa using x1) (All.cons (by simpa using y0) (All.cons (by simpa using y1) All.nil))))
    have harg : All (argP x y false false false false) := All.cons (by simpa using x0) (All.cons (by simpa using x1) (All.cons (by simpa using y0) (All.cons (by simpa using y1) All.nil)))
    unfold much at x1 y1
    have h3 : All [W64 ((sel o A B).p + 1) = (sel o A B).p + 1, W64 ((sel o A B).b + x) = (sel o A B).b + x, W64 ((sel o A B).w + y) = (sel o A B).w + y] :=
      All.cons (w_in (by omega) (by omega)) (All.cons (w_in (by omega) (by omega)) (All.cons (w_in (by omega) (by omega)) All.nil))
    have mE : ∀ f1 f2 : Bool, All (fullP (sel o A B) x y f1 f2 true) → workM.wp Tryd.prog Q0 a w := fun f1 f2 hp =>
      go (n1 := 4) hI (by omega) (by omega) rfl (seg_runG (m := 1) zerosFlat_here mixed_here (mpH_ok _) s86 (fun f => m_much cs n c (k : Int) K x y z q o f1 f2 A B f) (All.append hg (All.append hk (All.append harg hp))) rfl rfl)
    by_cases f1 : (sel o A B).p + 1 > most
    · exact mE true false (All.append h3 (All.cons (decide_eq_true f1) All.nil))
    by_cases f2 : (sel o A B).b + x > most
    · exact mE false true (All.append h3 (All.cons (decide_eq_false f1) (All.cons (decide_eq_true f2) All.nil)))
    by_cases f3 : (sel o A B).w + y > most
    · exact mE false false (All.append h3 (All.cons (decide_eq_false f1) (All.cons (decide_eq_false f2) (All.cons (decide_eq_true f3) All.nil))))
    have hf : All (fullP (sel o A B) x y false false false) := All.append h3 (All.cons (decide_eq_false f1) (All.cons (decide_eq_false f2) (All.cons (decide_eq_false f3) All.nil)))
    have hS : W64 ((sel o A B).s + x) = (sel o A B).s + x := w_in (by omega) (by omega)
    unfold most at f1 f2 f3
    have hI' : Ok (putA o A (more A x y)) (putB o B (more B x y)) := hI.put o (F := fun X => more X x y) ⟨by show 0 ≤ (sel o A B).p + 1; omega, by show (sel o A B).p + 1 ≤ most; unfold most; omega, by show 0 ≤ (sel o A B).b + x; omega, by show (sel o A B).b + x ≤ most; unfold most; omega, by show 0 ≤ (sel o A B).w + y; omega, by show (sel o A B).w + y ≤ most; unfold most; omega, l0, l1, by show 0 ≤ (sel o A B).s + x; omega, by show (sel o A B).s + x ≤ (sel o A B).b + x; omega⟩
    exact go (n1 := 4) hI' (by omega) (by omega) rfl (seg_runG (m := 1) zerosFlat_here mixed_here (mpH_ok _) s86 (fun f => m_add cs n c (k : Int) K x y z q o A B f)
      (All.append hg (All.append hk (All.append harg (All.append hf (All.cons (differ o A B x y) (All.cons hS All.nil)))))) rfl rfl)
  · have hk : ∀ {l : List Prop}, All l → All ([(K == 0) = false] ++ l) := fun hl => All.cons (by simpa using hK0) hl
    by_cases hl : (sel o A B).l ≥ most
    · exact go (n1 := 3) hI (by omega) (by omega) rfl (seg_runG (m := 1) zerosFlat_here mixed_here (mpH_ok _) s86 (fun f => m_full cs n c (k : Int) K x y z q o A B f) (All.append hg (hk (All.cons (decide_eq_true hl) All.nil))) rfl rfl)
    · have hL : W64 ((sel o A B).l + 1) = (sel o A B).l + 1 := w_in (by omega) (by omega)
      have hl' := hl
      unfold most at hl'
      have hI' : Ok (putA o A (lost A)) (putB o B (lost B)) := hI.put o (F := lost) ⟨p0, p1, b0, b1, w0, w1, by show 0 ≤ (sel o A B).l + 1; omega, by show (sel o A B).l + 1 ≤ most; unfold most; omega, s0, s1⟩
      exact go (n1 := 3) hI' (by omega) (by omega) rfl (seg_runG (m := 1) zerosFlat_here mixed_here (mpH_ok _) s86 (fun f => m_lose cs n c (k : Int) K x y z q o A B f) (All.append hg (hk (All.cons (decide_eq_false hl) (All.cons hL All.nil)))) rfl rfl)
/-- What holds behind the loop. -/
def Left (m : Nat) (W : World) (o0 : Option AObj) (q : Bool) (a : Act) (w : World) : Prop := ∃ A B, Ok A B ∧ Here Tryd.prog m W 86 [(1, .bool q), (5, pK 1)] [o0, mO (mC 0 A B)] a w
theorem here_less {m : Nat} {o0 : Option AObj} {v0 : Value} {i : Int} {A B : Wy} {a : Act} {w : World} (hs : Here Tryd.prog m W 86 [(0, v0), (1, .bool q), (5, pK 1), (6, .int .i64 i)] [o0, mO (mC 0 A B)] a w) : Here Tryd.prog m W 86 [(1, .bool q), (5, pK 1)] [o0, mO (mC 0 A B)] a w := by
  obtain ⟨κ, G, f, s⟩ := hs
  exact ⟨κ, G, f, s.rel, s.fr, s.n, s.ds, s.df, ⟨s.holds.2.1, s.holds.2.2.1, trivial⟩, s.full, s.free, s.own, s.below⟩
theorem round_m (hcs : flatL cs = true) (hn : n ≤ 140737488355328) (hops : Ops cs n) (d : Nat × Wy × Wy) {a : Act} {w : World} (hI : d.1 ≤ n ∧ Ok d.2.1 d.2.2)
    (hs : Here Tryd.prog 1 W 86 (liveM n c q (d.1 : Int)) (objM cs d.2.1 d.2.2) a w) :
    loopM.wp Tryd.prog (fun e a' w' => (e = .normal ∧ ∃ d' : Nat × Wy × Wy, (d'.1 ≤ n ∧ Ok d'.2.1 d'.2.2) ∧ n - d'.1 < n - d.1 ∧ Here Tryd.prog 1 W 86 (liveM n c q (d'.1 : Int)) (objM cs d'.2.1 d'.2.2) a' w') ∨
      (e = .exit 0 ∧ Left 1 W (viewO cs) q a' w')) a w := by
  obtain ⟨k, A, B⟩ := d
  obtain ⟨hk, hok⟩ := hI
  rw [loopM_eq]
  by_cases hlt : k < n
  · obtain ⟨K, o, x, y, z, h5, hrow⟩ := hops k hlt
    have hg : All (goP cs n (k : Int) K o x y z) := All.cons ⟨by omega, by omega⟩ (All.cons h5 (All.cons hrow All.nil))
    have st := seg_run (m := 1) zerosFlat_here mixed_here (mpH_ok _) s86 (fun f => m_go (viewO cs) n c q (k : Int) (mC 0 A B) f) (All.cons (by simp; omega) All.nil) rfl rfl rfl
    refine wp_seq ?_
    refine Here.seg s86 st (fun _ _ h => ExR.normal_only h) (by unfold BIG; simp) (by unfold BIG; simp) hs fun a1 w1 hs1 => ?_
    refine wp_seq (wp_block ?_)
    refine act_all hcs hok hg hs1 _ fun A' B' a2 w2 hI' hs2 => ?_
    have sn := seg_run (m := 1) zerosFlat_here mixed_here (mpH_ok _) s86 (fun f => m_next (viewO cs) n c q (k : Int) (mC 0 A' B') f) (All.cons (w_in (by omega) (by omega)) All.nil) rfl rfl rfl
    refine Here.seg s86 sn (fun _ _ h => ExR.normal_only h) (by unfold BIG; simp) (by unfold BIG; simp) hs2 fun a4 w4 hs4 => ?_
    exact .inl ⟨rfl, (k + 1, A', B'), ⟨by show k + 1 ≤ n; omega, hI'⟩, by show n - (k + 1) < n - k; omega, hs4⟩
  · have st := seg_run (m := 1) zerosFlat_here mixed_here (mpH_ok _) s86 (fun f => m_end (viewO cs) n c q (k : Int) (mC 0 A B) f) (All.cons (by simp; omega) All.nil) rfl rfl rfl
    refine wp_seq ?_
    exact Here.seg s86 st (fun _ _ h => ExR.exit_only h) (by unfold BIG; simp) (by unfold BIG; simp) hs fun a1 w1 hs1 => .inr ⟨rfl, A, B, hok, here_less hs1⟩
end
theorem ok0 : Ok w0 w0 := by
  have h : WyOk w0 := by constructor <;> decide
  exact ⟨h, h⟩
section
variable {m : Nat} {W : World} {o0 : Option AObj} {v0 : Value} {q : Bool}
theorem lowbits (hm : m ≤ 1) {z : Nat} (h0 : Nat.beq (Nat.land z (2 ^ 0 - 1)) 0 = true) (h1 : Nat.beq (Nat.land z (2 ^ 1 - 1)) 0 = true) : Nat.beq (Nat.land z (2 ^ m - 1)) 0 = true := by
  rcases (by omega : m = 0 ∨ m = 1) with rfl | rfl
  · exact h0
  · exact h1
theorem body_wp (hm : m ≤ 1) (ho : ObjOk (List.range 2) o0 o0)
    (hloop : ∀ a w, Here Tryd.prog m W 86 [(0, v0), (1, .bool q), (5, pK 1), (6, .int .i64 0)] [o0, mO (mC 0 w0 w0)] a w →
      ∀ Q : WPost, (∀ a' w', Left m W o0 q a' w' → Q .normal a' w') → (Code.block 0 (.loop loopM)).wp Tryd.prog Q a w)
    {a : Act} {w : World} (hs : Here Tryd.prog m W 86 [(0, v0), (1, .bool q)] [o0] a w) : bodyM.wp Tryd.prog (endM m W) a w := by
  have sp := seg_split (m := m) zerosFlat_here mixed_here (mpH_ok _) s86 splitM (fun f => m_pre o0 v0 q f) All.nil rfl rfl (lowbits hm rfl rfl)
  refine Here.seg (Q := fun _ a1 w1 => Here Tryd.prog m W 86 _ _ a1 w1) s86 sp (fun _ _ h => ExR.normal_only h) (by unfold BIG; simp) (by unfold BIG; simp) hs (fun a1 w1 h => h) (endM m W) fun a1 w1 hs1 => ?_
  rw [restM_eq]
  refine wp_seq (wp_seq ?_)
  have si := seg_run (m := m) zerosFlat_here mixed_here (mpH_ok _) s86 (fun f => m_init o0 v0 q (mC 0 w0 w0) f) All.nil rfl rfl (lowbits hm rfl rfl)
  refine Here.seg s86 si (fun _ _ h => ExR.normal_only h) (by unfold BIG; simp) (by unfold BIG; simp) hs1 fun a2 w2 hs2 => ?_
  refine hloop a2 w2 hs2 _ fun a3 w3 hx => ?_
  obtain ⟨A, B, hok, hs3⟩ := hx
  obtain ⟨nl, b0, c0, hp⟩ := tail_all (hok.way q)
  have st := seg_runG (m := m) zerosFlat_here mixed_here (mpH_ok _) s86 (fun f => m_tail o0 q nl b0 c0 A B f) hp rfl (lowbits hm rfl rfl)
  exact Here.segK (F := codeW Tryd.prog tailM) s86 st (fun _ _ h => ExR.ret_only h) (by unfold BIG; simp) (by simp) (by unfold BIG; simp) (by rcases (by omega : m = 0 ∨ m = 1) with rfl | rfl <;> rfl) (fun j hj => flat_objs (m := m) ho A B j hj rfl) rfl rfl hs3 fun a4 w4 hs5 => ⟨.inl rfl, _, _, by simp, hs5⟩
end
theorem bounds_call {W : World} {cs : List Value} {ad : Addr} {n c : Nat} {q : Bool} (hcs : flatL cs = true) (hn : n ≤ 140737488355328) (hops : Ops cs n) (ca : Came W cs ad) :
    Calls Tryd.prog 3 #[.slice (some ad) n c, .bool q] W fun e W' => e = .returned (.bool true) ∧ Below W.heap.size W W' := by
  refine here_calls (m := 1) (N := 86) (s := 4) (e := 26) (t := true) (rows := [(cs, ad)]) (args := [pSl n c, .bool q]) (live := [(0, pSl n c), (1, .bool q)]) f3_at f3_body (by kernel_rfl) rfl (fun r hr => by obtain rfl := List.mem_singleton.1 hr; exact ca)
    (.cons (came_slice (id := 0) (r := (cs, ad)) rfl ca.spot n c) (VL.flat _ rfl)) (by kernel_rfl) s86 ⟨rfl, rfl, trivial⟩ fun ac hs => ?_
  refine body_wp (m := 1) (o0 := viewO cs) (v0 := pSl n c) (q := q) (Nat.le_refl 1) (.inl ⟨rfl, hcs⟩) (fun a w hh Q hq => ?_) hs
  exact Here.loopX (D := Nat × Wy × Wy) (fun d => n - d.1) (fun d => d.1 ≤ n ∧ Ok d.2.1 d.2.2) (Left 1 W (viewO cs) q) (live := fun d => liveM n c q (d.1 : Int)) (obj := fun d => objM cs d.2.1 d.2.2)
    (fun d a w hI hs => round_m hcs hn hops d hI hs) (0, w0, w0) a w Q ⟨Nat.zero_le _, ok0⟩ hh hq
theorem bounds_nil {W : World} {q : Bool} : Calls Tryd.prog 3 #[.slice none 0 0, .bool q] W fun e W' => e = .returned (.bool true) ∧ Below W.heap.size W W' := by
  refine here_calls (m := 0) (N := 86) (s := 4) (e := 26) (t := true) (rows := []) (args := [.slice none 0 0, .bool q]) (live := [(0, .slice none 0 0), (1, .bool q)]) f3_at f3_body (by kernel_rfl) rfl (fun r hr => by cases hr)
    (.cons (.sliceNil 0 0) (VL.flat _ rfl)) (by kernel_rfl) s86 ⟨rfl, rfl, trivial⟩ fun ac hs => ?_
  refine body_wp (m := 0) (o0 := none) (v0 := .slice none 0 0) (q := q) (Nat.zero_le 1) (.inr rfl) (fun a w hh Q hq => ?_) (here_pad hs)
  refine Here.loopX (D := Unit) (fun _ => 0) (fun _ => True) (Left 0 W none q) (live := fun _ => [(0, .slice none 0 0), (1, .bool q), (5, pK 1), (6, .int .i64 0)]) (obj := fun _ => [none, mO (mC 0 w0 w0)]) (fun _ a w _ hs => ?_) () a w Q trivial hh hq
  rw [loopM_eq]
  have st := seg_run (m := 0) zerosFlat_here mixed_here (mpH_ok _) s86 (fun f => m_endN none q (mC 0 w0 w0) f) All.nil rfl rfl rfl
  refine wp_seq ?_
  exact Here.seg s86 st (fun _ _ h => ExR.exit_only h) (by unfold BIG; simp) (by unfold BIG; simp) hs fun a1 w1 hs1 => .inr ⟨rfl, w0, w0, ok0, here_less hs1⟩
end Go.Proofs.YthidmnghdoipiaaDoor
