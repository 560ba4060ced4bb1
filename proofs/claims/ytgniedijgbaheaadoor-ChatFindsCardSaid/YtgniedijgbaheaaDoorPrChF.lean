/- Chat: a text is found as soon as it has come: the rounds. -/
import Derived.Test.YtgniedijgbaheaaDoorPrChE
namespace Go.Proofs.YtgniedijgbaheaaDoor
open Go Go.RowKit Go.Ev
theorem s143 : small 143 = true := rfl
inductive St where
  | a0
  | aS (k : Nat)
  | b (k : Nat) (at_ fr : Int) (cm : Value)
  | bS (k : Nat) (at_ fr : Int) (cm : Value) (d : List Value) (q : Nat)
def St.k : St → Nat
  | .a0 => 0
  | .aS k => k
  | .b k .. => k
  | .bS k .. => k
abbrev objS (cs : List Value) (s : ByteArray) (x : Int) : St → List (Option AObj)
  | .a0 => [viewO cs, runO (runC 0 true s x x 0 nilS 0 nilS), lO s]
  | .aS k => [viewO cs, runO (runC 0 true s x x 0 (pK 3 k k) (k : Int) nilS), lO s, rowO (takeL cs 0 k)]
  | .b _ at_ fr cm => [viewO cs, runO (runC at_ false s x x 1 cm fr nilS), lO s]
  | .bS _ at_ fr cm d q => [viewO cs, runO (runC at_ false s x x 1 cm fr (pK 3 q q)), lO s, rowO d]
abbrev liveS (cs : List Value) (s : ByteArray) (n c : Nat) (x : Int) : St → List (Nat × Value)
  | .a0 => liveC s n c x false (gK cs 0) ((0 : Nat) : Int)
  | .aS k => liveC s n c x false (gK cs k) (k : Int)
  | .b k .. => liveC s n c x true (gK cs k) (k : Int)
  | .bS k .. => liveC s n c x true (gK cs k) (k : Int)
def okS (s : ByteArray) (n : Nat) : St → Prop
  | .a0 => 0 < s.size
  | .aS k => 0 < s.size ∧ 0 < k ∧ k ≤ n ∧ k ≤ 300
  | .b k .. => k ≤ n ∧ k ≤ 300
  | .bS k _ _ _ d q => k ≤ n ∧ k ≤ 300 ∧ d.all isU8 = true ∧ d.length = q ∧ 0 < q ∧ q ≤ k
/-- How the run stands behind the loop. -/
def Form (s : ByteArray) (x : Int) (met : Bool) (rc : List Value) : Prop :=
  (met = true ∧ ∃ at_ fr cm lf, rc = runC at_ false s x x 1 cm fr lf) ∨ (met = false ∧ ∃ fr cm lf, rc = runC 0 true s x x 0 cm fr lf)
def Left (m : Nat) (W : World) (o0 : Option AObj) (s : ByteArray) (v1 : Value) (x : Int) (a : Act) (w : World) : Prop :=
  ∃ met g i rc, Form s x met rc ∧ Here Tryd.prog m W 143 (liveV s v1 x met g i) [o0, runO rc, lO s] a w
section
variable {W : World} {cs : List Value} {s : ByteArray} {n c : Nat} {x : Int}
theorem leave {A : Exit → Act → World → Prop} {met : Bool} {g : ByteArray} {k : Nat} {rc : List Value} {a : Act} {w : World} (hk : n ≤ k ∨ 300 ≤ k) (hf : Form s x met rc) (hs : Here Tryd.prog 1 W 143 (liveC s n c x met g (k : Int)) [viewO cs, runO rc, lO s] a w) :
    loopC.wp Tryd.prog (fun e a' w' => A e a' w' ∨ (e = .exit 0 ∧ Left 1 W (viewO cs) s (pSl n c) x a' w')) a w := by
  by_cases h : n ≤ k
  · have sg := seg_run (m := 1) zerosFlat_here mixed_here (chH_ok _) s143 (fun f => c_end1 (viewO cs) n c rc s g x (k : Int) met f) (All.cons (by simp; omega) All.nil) rfl rfl rfl
    exact Here.seg s143 sg (fun _ _ h => ExR.exit_only h) (by unfold BIG; simp) (by unfold BIG; simp) hs fun a' w' hs' => .inr ⟨rfl, met, g, _, rc, hf, hs'⟩
  · have sg := seg_run (m := 1) zerosFlat_here mixed_here (chH_ok _) s143 (fun f => c_end2 (viewO cs) n c rc s g x (k : Int) met f) (All.cons (by simp; omega) (All.cons (by simp; omega) All.nil)) rfl rfl rfl
    exact Here.seg s143 sg (fun _ _ h => ExR.exit_only h) (by unfold BIG; simp) (by unfold BIG; simp) hs fun a' w' hs' => .inr ⟨rfl, met, g, _, rc, hf, hs'⟩
theorem drop_a {m : Nat} {k : Nat} {g : ByteArray} {i fr : Int} {a : Act} {w : World} (hm : m ≤ 1) (hU : flatL cs = true) {d : List Value} (hs : Here Tryd.prog m W 143 (liveC s n c x false g i) [viewO cs, runO (runC 0 true s x x 0 (pK 3 k k) fr nilS), lO s, rowO d] a w) :
    Here Tryd.prog m W 143 (liveC s n c x false g i) [viewO cs, runO (runC 0 true s x x 0 (.tuple #[]) fr nilS), lO s] a w :=
  Here.move2 [0, 1, 2] s143 (by unfold BIG; simp) (by rcases (by omega : m = 0 ∨ m = 1) with rfl | rfl <;> rfl) ⟨.inl ⟨rfl, hU⟩, .inr rfl, .inl ⟨rfl, rfl⟩, trivial⟩ rfl rfl hs
theorem round_a0 {a : Act} {w : World} (hU : cs.all isU8 = true) (hc : n ≤ c) (hl : c ≤ cs.length) (hx : x ≤ 549755813888) (hI : okS s n .a0) (hs : Here Tryd.prog 1 W 143 (liveS cs s n c x .a0) (objS cs s x .a0) a w) :
    loopC.wp Tryd.prog (fun e a' w' => (e = .normal ∧ ∃ st', okS s n st' ∧ n - st'.k < n - St.k .a0 ∧ Here Tryd.prog 1 W 143 (liveS cs s n c x st') (objS cs s x st') a' w') ∨
      (e = .exit 0 ∧ Left 1 W (viewO cs) s (pSl n c) x a' w')) a w := by
  by_cases hk : 0 < n
  · have hb := take_next hU (show 0 < cs.length by omega)
    have hd : takeL [Value.int .u8 (byteAt cs (oA c ((0 : Nat) : Int)))] 0 1 = takeL cs 0 1 := by
      rw [oA_in (by omega), ← hb]
      rfl
    have sg := seg_run (m := 1) zerosFlat_here mixed_here (chH_ok _) s143 (fun f => a_first cs s (gK cs 0) (gK cs 1) (rK cs s 1) n c x ((0 : Nat) : Int) (((0 : Nat) : Int) + 1 - (s.size : Int)) (geK s 1) (eK cs s 1) f)
      (All.append (feed_all hk (by omega) hc hx) (All.cons (by simp; rfl) (All.append (ld_all (k := 0) hU (by omega) hl) (All.append (nil_all _) (All.append (by rw [hd]; exact ended_all hU hI (by omega) (by omega)) (All.append (got_all hU hk (by omega) hc hl) (All.append (met_all hU (by omega) (by omega)) (ahead_all (by omega))))))))) rfl rfl (by cases geK s 1 <;> rfl)
    refine Here.seg s143 sg (fun _ _ h => ExR.normal_only h) (by unfold BIG; simp) (by unfold BIG; simp) hs fun a' w' hs' => .inl ⟨rfl, ?_⟩
    cases hm : (geK s 1 && eK cs s 1) with
    | true =>
      rw [hm] at hs'
      refine ⟨.b 1 1 1 (.tuple #[]), ⟨by omega, by omega⟩, by show n - 1 < n - 0; omega, ?_⟩
      exact Here.move2 [0, 1, 2] s143 (by unfold BIG; simp) rfl ⟨.inl ⟨rfl, flat_u8 hU⟩, .inr rfl, .inl ⟨rfl, rfl⟩, trivial⟩ rfl rfl hs'
    | false =>
      rw [hm, hd] at hs'
      refine ⟨.aS 1, ⟨hI, by omega, by omega, by omega⟩, by show n - 1 < n - 0; omega, ?_⟩
      exact Here.move2 [0, 1, 2, 4] s143 (by unfold BIG; simp) rfl ⟨.inl ⟨rfl, flat_u8 hU⟩, .inr rfl, .inl ⟨rfl, rfl⟩, .inl ⟨rfl, flat_u8 (take_u8 hU 0 1)⟩, trivial⟩ rfl rfl hs'
  · exact leave (by omega) (.inr ⟨rfl, _, _, _, rfl⟩) hs
theorem round_aS {k : Nat} {a : Act} {w : World} (hU : cs.all isU8 = true) (hc : n ≤ c) (hl : c ≤ cs.length) (hx : x ≤ 549755813888) (hI : okS s n (.aS k)) (hs : Here Tryd.prog 1 W 143 (liveS cs s n c x (.aS k)) (objS cs s x (.aS k)) a w) :
    loopC.wp Tryd.prog (fun e a' w' => (e = .normal ∧ ∃ st', okS s n st' ∧ n - st'.k < n - St.k (.aS k) ∧ Here Tryd.prog 1 W 143 (liveS cs s n c x st') (objS cs s x st') a' w') ∨
      (e = .exit 0 ∧ Left 1 W (viewO cs) s (pSl n c) x a' w')) a w := by
  obtain ⟨h0, hk0, hkn, hk3⟩ := hI
  by_cases hk : k < n ∧ k < 300
  · obtain ⟨hk, h3⟩ := hk
    have hb := take_next hU (show k < cs.length by omega)
    have hd : takeL (takeL cs 0 k) 0 k ++ takeL [Value.int .u8 (byteAt cs (oA c (k : Int)))] 0 1 = takeL cs 0 (k + 1) := by
      rw [oA_in (by omega), take_whole (len_takeL (by omega)), ← hb]
      rfl
    have sg := seg_run (m := 1) zerosFlat_here mixed_here (chH_ok _) s143 (fun f => a_next cs (takeL cs 0 k) s (gK cs k) (gK cs (k + 1)) (rK cs s (k + 1)) n c k x (k : Int) ((k : Int) + 1 - (s.size : Int)) (geK s (k + 1)) (eK cs s (k + 1)) f)
      (All.append (feed_all hk h3 hc hx) (All.cons (by simp; rfl) (All.append (ld_all (k := k) hU (by omega) hl) (All.append (add_all (take_u8 hU 0 k) (len_takeL (by omega)) hk0 (by omega) _) (All.append (by rw [hd]; exact ended_all hU h0 h3 (by omega)) (All.append (got_all hU hk h3 hc hl) (All.append (met_all hU h3 (by omega)) (ahead_all h3)))))))) rfl rfl (by cases geK s (k + 1) <;> rfl)
    refine Here.seg s143 sg (fun _ _ h => ExR.normal_only h) (by unfold BIG; simp) (by unfold BIG; simp) hs fun a' w' hs' => .inl ⟨rfl, ?_⟩
    cases hm : (geK s (k + 1) && eK cs s (k + 1)) with
    | true =>
      rw [hm] at hs'
      refine ⟨.b (k + 1) 1 ((k : Int) + 1) (.tuple #[]), ⟨by omega, by omega⟩, by show n - (k + 1) < n - k; omega, ?_⟩
      exact Here.move2 [0, 1, 2] s143 (by unfold BIG; simp) rfl ⟨.inl ⟨rfl, flat_u8 hU⟩, .inr rfl, .inl ⟨rfl, rfl⟩, trivial⟩ rfl rfl hs'
    | false =>
      rw [hm, hd] at hs'
      refine ⟨.aS (k + 1), ⟨h0, by omega, by omega, by omega⟩, by show n - (k + 1) < n - k; omega, ?_⟩
      exact Here.move2 [0, 1, 2, 5] s143 (by unfold BIG; simp) rfl ⟨.inl ⟨rfl, flat_u8 hU⟩, .inr rfl, .inl ⟨rfl, rfl⟩, .inl ⟨rfl, flat_u8 (take_u8 hU 0 (k + 1))⟩, trivial⟩ rfl rfl hs'
  · exact leave (by omega) (.inr ⟨rfl, _, _, _, rfl⟩) (drop_a (Nat.le_refl 1) (flat_u8 hU) hs)
theorem round_b {k : Nat} {at_ fr : Int} {cm : Value} {a : Act} {w : World} (hU : cs.all isU8 = true) (hc : n ≤ c) (hl : c ≤ cs.length) (hx : x ≤ 549755813888) (hI : okS s n (.b k at_ fr cm)) (hs : Here Tryd.prog 1 W 143 (liveS cs s n c x (.b k at_ fr cm)) (objS cs s x (.b k at_ fr cm)) a w) :
    loopC.wp Tryd.prog (fun e a' w' => (e = .normal ∧ ∃ st', okS s n st' ∧ n - st'.k < n - St.k (.b k at_ fr cm) ∧ Here Tryd.prog 1 W 143 (liveS cs s n c x st') (objS cs s x st') a' w') ∨
      (e = .exit 0 ∧ Left 1 W (viewO cs) s (pSl n c) x a' w')) a w := by
  obtain ⟨hkn, hk3⟩ := hI
  by_cases hk : k < n ∧ k < 300
  · obtain ⟨hk, h3⟩ := hk
    have sg := seg_run (m := 1) zerosFlat_here mixed_here (chH_ok _) s143 (fun f => b_first cs s (gK cs k) (gK cs (k + 1)) n c x (k : Int) at_ fr cm f)
      (All.append (feed_all hk h3 hc hx) (All.append (ld_all (k := k) hU (by omega) hl) (All.append (nil_all _) (All.append (got_all hU hk h3 hc hl) (ahead_all h3))))) rfl rfl rfl
    refine Here.seg s143 sg (fun _ _ h => ExR.normal_only h) (by unfold BIG; simp) (by unfold BIG; simp) hs fun a' w' hs' => .inl ⟨rfl, .bS (k + 1) at_ fr (mvC [0, 1, 2, 4] cm) [Value.int .u8 (byteAt cs (oA c (k : Int)))] 1, ⟨by omega, by omega, rfl, rfl, by omega, by omega⟩, by show n - (k + 1) < n - k; omega, ?_⟩
    exact Here.move2 [0, 1, 2, 4] s143 (by unfold BIG; simp) rfl ⟨.inl ⟨rfl, flat_u8 hU⟩, .inr rfl, .inl ⟨rfl, rfl⟩, .inl ⟨rfl, rfl⟩, trivial⟩ rfl rfl hs'
  · exact leave (by omega) (.inl ⟨rfl, _, _, _, _, rfl⟩) hs
theorem round_bS {k : Nat} {at_ fr : Int} {cm : Value} {d : List Value} {q : Nat} {a : Act} {w : World} (hU : cs.all isU8 = true) (hc : n ≤ c) (hl : c ≤ cs.length) (hx : x ≤ 549755813888) (hI : okS s n (.bS k at_ fr cm d q)) (hs : Here Tryd.prog 1 W 143 (liveS cs s n c x (.bS k at_ fr cm d q)) (objS cs s x (.bS k at_ fr cm d q)) a w) :
    loopC.wp Tryd.prog (fun e a' w' => (e = .normal ∧ ∃ st', okS s n st' ∧ n - st'.k < n - St.k (.bS k at_ fr cm d q) ∧ Here Tryd.prog 1 W 143 (liveS cs s n c x st') (objS cs s x st') a' w') ∨
      (e = .exit 0 ∧ Left 1 W (viewO cs) s (pSl n c) x a' w')) a w := by
  obtain ⟨hkn, hk3, hd, hdl, hq0, hqk⟩ := hI
  by_cases hk : k < n ∧ k < 300
  · obtain ⟨hk, h3⟩ := hk
    have sg := seg_run (m := 1) zerosFlat_here mixed_here (chH_ok _) s143 (fun f => b_next cs d s (gK cs k) (gK cs (k + 1)) n c q x (k : Int) at_ fr cm f)
      (All.append (feed_all hk h3 hc hx) (All.append (ld_all (k := k) hU (by omega) hl) (All.append (add_all hd hdl hq0 (by omega) _) (All.append (got_all hU hk h3 hc hl) (ahead_all h3))))) rfl rfl rfl
    have hd' : (takeL d 0 q ++ takeL [Value.int .u8 (byteAt cs (oA c (k : Int)))] 0 1).all isU8 = true := by
      rw [List.all_append, take_u8 hd]
      rfl
    refine Here.seg s143 sg (fun _ _ h => ExR.normal_only h) (by unfold BIG; simp) (by unfold BIG; simp) hs fun a' w' hs' => .inl ⟨rfl, .bS (k + 1) at_ fr (mvC [0, 1, 2, 5] cm) _ (q + 1), ⟨by omega, by omega, hd', ?_, by omega, by omega⟩, by show n - (k + 1) < n - k; omega, ?_⟩
    · rw [take_whole hdl]
      simp [takeL, hdl]
    · exact Here.move2 [0, 1, 2, 5] s143 (by unfold BIG; simp) rfl ⟨.inl ⟨rfl, flat_u8 hU⟩, .inr rfl, .inl ⟨rfl, rfl⟩, .inl ⟨rfl, flat_u8 hd'⟩, trivial⟩ rfl rfl hs'
  · refine leave (k := k) (g := gK cs k) (rc := runC at_ false s x x 1 (mvC [0, 1, 2] cm) fr (.tuple #[])) (by omega) (.inl ⟨rfl, _, _, _, _, rfl⟩) ?_
    exact Here.move2 [0, 1, 2] s143 (by unfold BIG; simp) rfl ⟨.inl ⟨rfl, flat_u8 hU⟩, .inr rfl, .inl ⟨rfl, rfl⟩, trivial⟩ rfl rfl hs
theorem round_all {a : Act} {w : World} (hU : cs.all isU8 = true) (hc : n ≤ c) (hl : c ≤ cs.length) (hx : x ≤ 549755813888) : ∀ st : St, okS s n st → Here Tryd.prog 1 W 143 (liveS cs s n c x st) (objS cs s x st) a w →
    loopC.wp Tryd.prog (fun e a' w' => (e = .normal ∧ ∃ st', okS s n st' ∧ n - st'.k < n - st.k ∧ Here Tryd.prog 1 W 143 (liveS cs s n c x st') (objS cs s x st') a' w') ∨
      (e = .exit 0 ∧ Left 1 W (viewO cs) s (pSl n c) x a' w')) a w
  | .a0, hI, hs => round_a0 hU hc hl hx hI hs
  | .aS _, hI, hs => round_aS hU hc hl hx hI hs
  | .b .., hI, hs => round_b hU hc hl hx hI hs
  | .bS .., hI, hs => round_bS hU hc hl hx hI hs
end
end Go.Proofs.YtgniedijgbaheaaDoor
