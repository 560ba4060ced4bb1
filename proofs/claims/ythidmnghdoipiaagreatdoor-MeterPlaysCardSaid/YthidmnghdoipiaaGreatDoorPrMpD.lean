/- Meter: whatever goes over a link: the rounds. -/
import Derived.Test.YthidmnghdoipiaaGreatDoorPrMpC
import Derived.Test.YthidmnghdoipiaaGreatDoorKit13
import Derived.Test.YthidmnghdoipiaaGreatDoorKit14
namespace Go.Proofs.YthidmnghdoipiaaGreatDoor
open Go Go.RowKit Go.Ev
theorem All.append {ps qs : List Prop} (h : All ps) (h' : All qs) : All (ps ++ qs) := fun p hp => (List.mem_append.1 hp).elim (h p) (h' p)
theorem All.nil : All [] := fun _ h => (by cases h)
theorem All.cons {p : Prop} {ps : List Prop} (h : p) (h' : All ps) : All (p :: ps) := fun q hq => by
  rcases List.mem_cons.1 hq with rfl | hq
  · exact h
  · exact h' q hq
theorem w_in {x : Int} (h0 : -9223372036854775808 ≤ x) (h1 : x < 9223372036854775808) : W64 x = x := wrap_in h0 h1
/-- What holds of one way. -/
structure WyOk (X : Wy) : Prop where
  p0 : 0 ≤ X.p
  p1 : X.p ≤ most
  b0 : 0 ≤ X.b
  b1 : X.b ≤ most
  w0 : 0 ≤ X.w
  w1 : X.w ≤ most
  l0 : 0 ≤ X.l
  l1 : X.l ≤ most
  s0 : 0 ≤ X.s
  s1 : X.s ≤ X.b
structure Ok (t : Int) (A B : Wy) : Prop where
  t0 : 0 ≤ t
  t1 : t ≤ much
  a : WyOk A
  b : WyOk B
theorem Ok.way {t : Int} {A B : Wy} (h : Ok t A B) (o : Bool) : WyOk (sel o A B) := by
  cases o
  · exact h.a
  · exact h.b
theorem Ok.put {t : Int} {A B : Wy} (h : Ok t A B) (o : Bool) {F : Wy → Wy} (hX : WyOk (F (sel o A B))) : Ok t (putA o A (F A)) (putB o B (F B)) := by
  cases o
  · exact ⟨h.t0, h.t1, hX, h.b⟩
  · exact ⟨h.t0, h.t1, h.a, hX⟩
theorem read_fK : Ieee.double.read fK = .number false 8796093022208000 (-43) := by decide +kernel
theorem mul_all (x : Int) : (floatBits .mul .f64 (fI x) fK).isSome = true := by
  obtain ⟨r, h⟩ := mul_int x fK 8796093022208000 (-43) false read_fK (by decide)
  rw [h]; rfl
theorem same_all (t : Int) (X : Wy) : All (sameP t X X) := by
  unfold sameP
  exact All.cons (by simp) (All.cons (by simp) (All.cons (by simp) (All.cons (by simp) (All.cons (mul_all _) (All.cons (mul_all _) (All.cons (by simp) (All.cons (by simp) (All.cons (by simp) (All.cons (by simp) All.nil)))))))))
theorem two_ways (A B C D : Wy) : twoEq Tryz.prog 8 49 (.agg ⟨waysL A B⟩) (.agg ⟨waysL C D⟩) =
    some ((A.p == C.p && (A.b == C.b && (A.w == C.w && (A.l == C.l && true)))) && ((B.p == D.p && (B.b == D.b && (B.w == D.w && (B.l == D.l && true)))) && true)) := by kernel_rfl
theorem differ (o : Bool) (A B : Wy) (x y : Int) : twoEq Tryz.prog 8 49 (.agg ⟨waysL (putA o A (more A x y)) (putB o B (more B x y))⟩) (.agg ⟨waysL A B⟩) = some false := by
  rw [two_ways]
  cases o
  · simp [more]; omega
  · simp [more]; omega
abbrev objM (cs : List Value) (t : Int) (A B : Wy) : List (Option AObj) := [viewO cs, mO (mC t A B), rO (rC t A B)]
theorem rate_eq (X : Wy) {d : Int} (d0 : 0 < d) (d1 : d ≤ much) : wayM X d = wayR X d ∧ (floatBits .quo .f64 (valF .mul (fI X.s) fK) (fI d)).isSome = true := by
  obtain ⟨n, rfl⟩ : ∃ n : Nat, d = (n : Int) := ⟨d.toNat, by omega⟩
  have hq := mul_quo (mul_all X.s) (n := n) (by omega) (by unfold much at d1; omega)
  refine ⟨?_, hq⟩
  have hr : rateM X (n : Int) = rateR X (n : Int) := by
    show toldF (valF .quo _ _) = valF .quo _ _
    unfold toldF
    rw [quo_num hq]
    rfl
  unfold wayM wayR
  rw [hr]
section
variable {W : World} {cs : List Value} {n c : Nat}
theorem flat_objs (hcs : flatL cs = true) (t : Int) (A B C D : Wy) (j : Nat) (hj : j < 3) : ObjOk (List.range 3) (objAt [viewO cs, mO (mC t A B), rO (rC t C D)] j) (objAt [viewO cs, mO (mC t A B), rO (rC t C D)] j) := by
  rcases (by omega : j = 0 ∨ j = 1 ∨ j = 2) with rfl | rfl | rfl
  · exact .inl ⟨rfl, hcs⟩
  · exact .inl ⟨rfl, rfl⟩
  · exact .inl ⟨rfl, rfl⟩
/-- The act of one round. -/
theorem act_all (hcs : flatL cs = true) {k : Nat} {K x y z t : Int} {o : Bool} {A B : Wy} (hI : Ok t A B) (hg : All (goP cs n (k : Int) K o x y z)) {a : Act} {w : World}
    (hs : Here Tryz.prog 1 W 78 (liveM n c (k : Int)) (objM cs t A B) a w) (Q0 : WPost)
    (hq : ∀ t' A' B' a' w', Ok t' A' B' → Here Tryz.prog 1 W 78 (liveW n c (k : Int)) (objM cs t' A' B') a' w' → sameM.wp Tryz.prog Q0 a' w') : workM.wp Tryz.prog Q0 a w := by
  have s78 : small 78 = true := rfl
  have go : ∀ {t' : Int} {A' B' : Wy} {n1 : Nat}, Ok t' A' B' → 3 ≤ n1 → n1 ≤ 100 → rhoOk 1 n1 (List.range 3) = true → SegG Tryz.prog 1 78 (thenW Tryz.prog workM sameM) (liveM n c (k : Int)) (objM cs t A B) .normal (liveW n c (k : Int)) (objM cs t' A' B') n1 → workM.wp Tryz.prog Q0 a w := by
    intro t' A' B' n1 hI' h3 h100 hr sg
    exact Here.segK (Q := fun _ a1 w1 => Here Tryz.prog 1 W 78 _ _ a1 w1) s78 sg (fun _ _ h => ExR.normal_only h) (by unfold BIG; simp) h3 (by unfold BIG; omega) hr (flat_objs hcs t' A' B' A' B') rfl rfl hs (fun a1 w1 h => h) Q0 fun a1 w1 hs1 => hq t' A' B' a1 w1 hI' hs1
  have hX := hI.way o
  obtain ⟨p0, p1, b0, b1, w0, w1, l0, l1, s0, s1⟩ := hX
  unfold most at p1 b1 w1 l1
  by_cases hK0 : K = 0
  · have hk : All [(K == 0) = true] := All.cons (by simp [hK0]) All.nil
    have argE : ∀ a1 a2 a3 : Bool, All (argP x y a1 a2 a3 true) → workM.wp Tryz.prog Q0 a w := fun a1 a2 a3 hp =>
      go (n1 := 4) hI (by omega) (by omega) rfl (seg_splitG (m := 1) zerosFlat_here mixed_here (mpH_ok _) s78 splitW (fun f => m_arg cs n c (k : Int) K x y z t o a1 a2 a3 A B f) (All.append hg (All.append hk (All.append hp hp))) rfl rfl)
    by_cases x0 : x < 0
    · exact argE true false false (All.cons (by simpa using x0) All.nil)
    by_cases x1 : x > much
    · exact argE false true false (All.cons (by simpa using x0) (All.cons (by simpa using x1) All.nil))
    by_cases y0 : y < 0
    · exact argE false false true (All.cons (by simpa using x0) (All.cons (by simpa using x1) (All.cons (by simpa using y0) All.nil)))
    by_cases y1 : y > much
    · exact argE false false false (All.cons (by simpa using x0) (All.cons (by simpa using x1) (All.cons (by simpa using y0) (All.cons (by simpa using y1) All.nil))))
    have harg : All (argP x y false false false false) := All.cons (by simpa using x0) (All.cons (by simpa using x1) (All.cons (by simpa using y0) (All.cons (by simpa using y1) All.nil)))
    unfold much at x1 y1
    have h3 : All [W64 ((sel o A B).p + 1) = (sel o A B).p + 1, W64 ((sel o A B).b + x) = (sel o A B).b + x, W64 ((sel o A B).w + y) = (sel o A B).w + y] :=
      All.cons (w_in (by omega) (by omega)) (All.cons (w_in (by omega) (by omega)) (All.cons (w_in (by omega) (by omega)) All.nil))
    have hb : W64 (most - (sel o A B).b) = most - (sel o A B).b := w_in (by unfold most; omega) (by unfold most; omega)
    have hw : W64 (most - (sel o A B).w) = most - (sel o A B).w := w_in (by unfold most; omega) (by unfold most; omega)
    have mE : ∀ f1 f2 : Bool, All (fullP (sel o A B) x y f1 f2 true) → All (fullR (sel o A B) x y f1 f2 true) → workM.wp Tryz.prog Q0 a w := fun f1 f2 hp hr =>
      go (n1 := 5) hI (by omega) (by omega) rfl (seg_splitG (m := 1) zerosFlat_here mixed_here (mpH_ok _) s78 splitW (fun f => m_much cs n c (k : Int) K x y z t o f1 f2 A B f) (All.append hg (All.append hk (All.append harg (All.append hp (All.append harg hr))))) rfl rfl)
    by_cases f1 : (sel o A B).p + 1 > most
    · exact mE true false (All.append h3 (All.cons (decide_eq_true f1) All.nil)) (All.cons (decide_eq_true (by unfold most at f1 ⊢; omega)) All.nil)
    by_cases f2 : (sel o A B).b + x > most
    · exact mE false true (All.append h3 (All.cons (decide_eq_false f1) (All.cons (decide_eq_true f2) All.nil))) (All.cons (decide_eq_false (by unfold most at f1 ⊢; omega)) (All.append (All.cons hb (All.cons (decide_eq_true (by unfold most at f2 ⊢; omega)) All.nil)) All.nil))
    by_cases f3 : (sel o A B).w + y > most
    · exact mE false false (All.append h3 (All.cons (decide_eq_false f1) (All.cons (decide_eq_false f2) (All.cons (decide_eq_true f3) All.nil)))) (All.cons (decide_eq_false (by unfold most at f1 ⊢; omega)) (All.append (All.cons hb (All.cons (decide_eq_false (by unfold most at f2 ⊢; omega)) All.nil)) (All.cons hw (All.cons (decide_eq_true (by unfold most at f3 ⊢; omega)) All.nil))))
    have hf : All (fullP (sel o A B) x y false false false) := All.append h3 (All.cons (decide_eq_false f1) (All.cons (decide_eq_false f2) (All.cons (decide_eq_false f3) All.nil)))
    have hr : All (fullR (sel o A B) x y false false false) := All.cons (decide_eq_false (by unfold most at f1 ⊢; omega)) (All.append (All.cons hb (All.cons (decide_eq_false (by unfold most at f2 ⊢; omega)) All.nil)) (All.cons hw (All.cons (decide_eq_false (by unfold most at f3 ⊢; omega)) All.nil)))
    have hS : W64 ((sel o A B).s + x) = (sel o A B).s + x := w_in (by omega) (by omega)
    unfold most at f1 f2 f3
    have hI' : Ok t (putA o A (more A x y)) (putB o B (more B x y)) := hI.put o (F := fun X => more X x y) ⟨by show 0 ≤ (sel o A B).p + 1; omega, by show (sel o A B).p + 1 ≤ most; unfold most; omega, by show 0 ≤ (sel o A B).b + x; omega, by show (sel o A B).b + x ≤ most; unfold most; omega, by show 0 ≤ (sel o A B).w + y; omega, by show (sel o A B).w + y ≤ most; unfold most; omega, l0, l1, by show 0 ≤ (sel o A B).s + x; omega, by show (sel o A B).s + x ≤ (sel o A B).b + x; omega⟩
    exact go (n1 := 5) hI' (by omega) (by omega) rfl (seg_splitG (m := 1) zerosFlat_here mixed_here (mpH_ok _) s78 splitW (fun f => m_add cs n c (k : Int) K x y z t o A B f)
      (All.append hg (All.append hk (All.append harg (All.append hf (All.append (All.cons (differ o A B x y) (All.cons hS All.nil)) (All.append harg (All.append hr (All.append h3 (All.cons hS All.nil))))))))) rfl rfl)
  · by_cases hK1 : K = 1
    · have hk : ∀ {l : List Prop}, All l → All ([(K == 0) = false, (K == 1) = true] ++ l) := fun hl => All.cons (by simpa using hK0) (All.cons (by simp [hK1]) hl)
      by_cases hl : (sel o A B).l ≥ most
      · exact go (n1 := 4) hI (by omega) (by omega) rfl (seg_splitG (m := 1) zerosFlat_here mixed_here (mpH_ok _) s78 splitW (fun f => m_full cs n c (k : Int) K x y z t o A B f) (All.append hg (hk (All.cons (decide_eq_true hl) (All.cons (decide_eq_true hl) All.nil)))) rfl rfl)
      · have hL : W64 ((sel o A B).l + 1) = (sel o A B).l + 1 := w_in (by omega) (by omega)
        have hl' := hl
        unfold most at hl'
        have hI' : Ok t (putA o A (lost A)) (putB o B (lost B)) := hI.put o (F := lost) ⟨p0, p1, b0, b1, w0, w1, by show 0 ≤ (sel o A B).l + 1; omega, by show (sel o A B).l + 1 ≤ most; unfold most; omega, s0, s1⟩
        exact go (n1 := 4) hI' (by omega) (by omega) rfl (seg_splitG (m := 1) zerosFlat_here mixed_here (mpH_ok _) s78 splitW (fun f => m_lose cs n c (k : Int) K x y z t o A B f) (All.append hg (hk (All.cons (decide_eq_false hl) (All.cons hL (All.cons (decide_eq_false hl) (All.cons hL All.nil)))))) rfl rfl)
    · have hk : ∀ {l : List Prop}, All l → All ([(K == 0) = false, (K == 1) = false] ++ l) := fun hl => All.cons (by simpa using hK0) (All.cons (by simpa using hK1) hl)
      obtain ⟨t0, t1, hA, hB⟩ := hI
      have hI : Ok t A B := ⟨t0, t1, hA, hB⟩
      by_cases z0 : z < t
      · have hl : All (lateP z t true true) := All.cons (decide_eq_true z0) All.nil
        exact go (n1 := 4) hI (by omega) (by omega) rfl (seg_splitG (m := 1) zerosFlat_here mixed_here (mpH_ok _) s78 splitW (fun f => m_late cs n c (k : Int) K x y z t o true A B f) (All.append hg (hk (All.append hl hl))) rfl rfl)
      by_cases z1 : z > much
      · have hl : All (lateP z t false true) := All.cons (decide_eq_false z0) (All.cons (decide_eq_true z1) All.nil)
        exact go (n1 := 4) hI (by omega) (by omega) rfl (seg_splitG (m := 1) zerosFlat_here mixed_here (mpH_ok _) s78 splitW (fun f => m_late cs n c (k : Int) K x y z t o false A B f) (All.append hg (hk (All.append hl hl))) rfl rfl)
      have hl : All (lateP z t false false) := All.cons (decide_eq_false z0) (All.cons (decide_eq_false z1) All.nil)
      unfold much at z1 t1
      by_cases z2 : z = t
      · exact go (n1 := 4) hI (by omega) (by omega) rfl (seg_splitG (m := 1) zerosFlat_here mixed_here (mpH_ok _) s78 splitW (fun f => m_now cs n c (k : Int) K x y z t o A B f) (All.append hg (hk (All.append hl (All.append (All.cons (by simp [z2]) All.nil) (All.append hl (All.cons (decide_eq_false (by omega)) All.nil)))))) rfl rfl)
      · have hd : W64 (z - t) = z - t := w_in (by omega) (by omega)
        have hm : ∀ X : Wy, All (moveP X z t) := fun X => All.cons (mul_all _) (All.cons hd All.nil)
        have hd0 : 0 < z - t := by omega
        have hd1 : z - t ≤ much := by unfold much; omega
        have hsm : ∀ X : Wy, All (smoothP X z t) := fun X => All.cons hd (All.cons (mul_all _) (All.cons (rate_eq X hd0 hd1).2 All.nil))
        have sg := seg_splitG (m := 1) zerosFlat_here mixed_here (mpH_ok _) s78 splitW (fun f => m_clock cs n c (k : Int) K x y z t o A B f)
          (All.append hg (hk (All.append hl (All.append (All.cons (by simpa using z2) All.nil) (All.append (hm A) (All.append (hm B) (All.append hl (All.append (All.cons (decide_eq_true (by omega)) All.nil) (All.append (hsm A) (hsm B)))))))))) rfl rfl
        have eA := (rate_eq A hd0 hd1).1
        have eB := (rate_eq B hd0 hd1).1
        rw [eA, eB] at sg
        have hwy : ∀ X : Wy, WyOk X → WyOk (wayR X (z - t)) := fun X h => ⟨h.p0, h.p1, h.b0, h.b1, h.w0, h.w1, h.l0, h.l1, Int.le_refl 0, h.b0⟩
        exact go (n1 := 4) (t' := z) (A' := wayR A (z - t)) (B' := wayR B (z - t)) ⟨by omega, by unfold much; omega, hwy A hA, hwy B hB⟩ (by omega) (by omega) rfl sg
end
end Go.Proofs.YthidmnghdoipiaaGreatDoor
