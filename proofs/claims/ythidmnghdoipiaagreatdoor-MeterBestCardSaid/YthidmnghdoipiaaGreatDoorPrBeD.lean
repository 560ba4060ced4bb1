/- Meter: the first and the last one: contracts of 'first'. -/
import Derived.Test.YthidmnghdoipiaaGreatDoorPrBeC
namespace Go.Proofs.YthidmnghdoipiaaGreatDoor
open Go Go.RowKit Go.Ev
def aheadB (w : Bool) (x b : Nat) : Bool := bif w then decide (ordF x b > 0) else decide (ordF x b < 0)
/-- The best of the first so many. -/
def bestK (w : Bool) (ys : List Nat) : Nat → Nat
  | 0 => 0
  | k + 1 => bif decide (k = 0) || aheadB w (ys.getD k 0) (bestK w ys k) then ys.getD k 0 else bestK w ys k
theorem s30 : small 30 = true := rfl
section
variable {W : World} {ys : List Nat} {n c : Nat} {w : Bool}
theorem round_f (hn : n ≤ ys.length) (hs : n ≤ 140737488355328) (k : Nat) {a : Act} {wd : World} (hk : k ≤ n) (hh : Here Tryz.prog 1 W 30 (liveF w n c (bestK w ys k) (k : Int)) [viewF (fl ys)] a wd) :
    loopF.wp Tryz.prog (fun e a' w' => (e = .normal ∧ ∃ k', k' ≤ n ∧ n - k' < n - k ∧ Here Tryz.prog 1 W 30 (liveF w n c (bestK w ys k') (k' : Int)) [viewF (fl ys)] a' w') ∨
      (e = .exit 0 ∧ Here Tryz.prog 1 W 30 (liveF w n c (bestK w ys n) (n : Int)) [viewF (fl ys)] a' w')) a wd := by
  by_cases hlt : k < n
  · obtain ⟨h1, h2⟩ := fl_at (xs := ys) (k := k) (by omega)
    have hx : fltAt (fl ys) (at1 (k : Int)) = ys.getD k 0 := by
      rw [at1_eq, h2, List.getD_eq_getElem?_getD, List.getElem?_eq_getElem (by omega)]
      rfl
    have hz : (((k : Int)) == 0) = decide (k = 0) := by
      by_cases h : k = 0
      · subst h; rfl
      · rw [decide_eq_false h, beq_eq_false_iff_ne]; omega
    have sg := seg_run (m := 1) zerosFlat_here mixed_here (orH_ok _) s30 (fun f => f_round (fl ys) w n c (bestK w ys k) (k : Int) (decide (k = 0)) (aheadB w (ys.getD k 0) (bestK w ys k)) f) (by
      unfold fP
      refine All.append (All.cons (by simp; omega) (All.cons ⟨by omega, by omega⟩ (All.cons (by rw [at1_eq, h2]; exact h1) (All.cons hz All.nil)))) (All.append ?_ (All.cons (w_in (by omega) (by omega)) All.nil))
      cases decide (k = 0)
      · unfold aheadP aheadB
        rw [hx]
        cases w
        · exact All.cons rfl All.nil
        · exact All.cons rfl All.nil
      · exact All.nil) rfl rfl rfl
    refine Here.seg s30 sg (fun _ _ h => ExR.normal_only h) (by unfold BIG; simp) (by unfold BIG; simp) hh fun a' w' hs' => .inl ⟨rfl, k + 1, by omega, by omega, ?_⟩
    rw [hx] at hs'
    exact hs'
  · obtain rfl : k = n := by omega
    have sg := seg_run (m := 1) zerosFlat_here mixed_here (orH_ok _) s30 (fun f => f_end (fl ys) w k c (bestK w ys k) (k : Int) f) (All.cons (by simp) All.nil) rfl rfl rfl
    exact Here.seg s30 sg (fun _ _ h => ExR.exit_only h) (by unfold BIG; simp) (by unfold BIG; simp) hh fun a' w' hs' => .inr ⟨rfl, hs'⟩
end
theorem first_calls {W : World} {ys : List Nat} {a : Addr} {n c : Nat} (w : Bool) (hn : n ≤ ys.length) (h0 : 0 < n) (hs : n ≤ 140737488355328) (ca : Came W (fl ys) a) :
    Calls Tryz.prog 37 #[.slice (some a) n c, fnV w] W fun en w' => en = .returned (.tuple #[fV (bestK w ys n), .bool true]) ∧ Below W.heap.size W w' := by
  refine (here_calls_v (m := 1) (N := 30) (e := 37) (rows := [(fl ys, a)]) (args := [pSl n c, fnV w]) (live := [(0, pSl n c), (1, fnV w)]) f37_at f37_body rfl (fun r hr => by obtain rfl := List.mem_singleton.1 hr; exact ca)
    (.cons (came_slice (id := 0) (r := (fl ys, a)) rfl ca.spot n c) (VL.flat _ (by cases w <;> rfl))) (by kernel_rfl) s30 ⟨rfl, rfl, trivial⟩ (fun v w' => v = .tuple #[fV (bestK w ys n), .bool true] ∧ Below W.heap.size W w') fun ac hh => ?_).mono (fun en w' hen => by
      obtain ⟨v, rfl, rfl, hb⟩ := hen
      exact ⟨rfl, hb⟩)
  have sp := seg_split (m := 1) zerosFlat_here mixed_here (orH_ok _) s30 splitF (fun f => f_pre (fl ys) w n c f) All.nil rfl rfl rfl
  refine Here.seg (Q := fun _ a1 w1 => Here Tryz.prog 1 W 30 _ _ a1 w1) s30 sp (fun _ _ h => ExR.normal_only h) (by unfold BIG; simp) (by unfold BIG; simp) hh (fun a1 w1 h => h) (fun ex a' w' => (ex = .ret ∨ ex = .normal) ∧ a'.defers = [] ∧ ∃ v, (results Tryz.f37 a'.tmps).run Tryz.prog w' = .ok v w' ∧ v = .tuple #[fV (bestK w ys n), .bool true] ∧ Below W.heap.size W w') fun a1 w1 hs1 => ?_
  rw [restF_eq]
  refine wp_seq (wp_seq ?_)
  have si := seg_run (m := 1) zerosFlat_here mixed_here (orH_ok _) s30 (fun f => f_init (fl ys) w n c f) All.nil rfl rfl rfl
  refine Here.seg s30 si (fun _ _ h => ExR.normal_only h) (by unfold BIG; simp) (by unfold BIG; simp) hs1 fun a2 w2 hs2 => ?_
  refine Here.loopX (D := Nat) (fun k => n - k) (fun k => k ≤ n) (fun a' w' => Here Tryz.prog 1 W 30 (liveF w n c (bestK w ys n) (n : Int)) [viewF (fl ys)] a' w') (live := fun k => liveF w n c (bestK w ys k) (k : Int)) (obj := fun _ => [viewF (fl ys)])
    (fun k a w hk hh => round_f hn hs k hk hh) 0 a2 w2 _ (Nat.zero_le _) hs2 fun a3 w3 hs3 => ?_
  have st := seg_run (m := 1) zerosFlat_here mixed_here (orH_ok _) s30 (fun f => f_tail (fl ys) w true n c (bestK w ys n) (n : Int) f) (All.cons (by simp; omega) All.nil) rfl rfl rfl
  refine Here.seg s30 st (fun _ _ h => ExR.ret_only h) (by unfold BIG; simp) (by unfold BIG; simp) hs3 fun a4 w4 hs4 => ⟨.inl rfl, hs4.df, _, results_two (s := 4) (t := 5) (by kernel_rfl) _ _, ?_, hs4.below⟩
  rw [hs4.flat_at (s := 4) (v := fV (bestK w ys n)) (by simp) rfl, hs4.flat_at (s := 5) (v := .bool true) (by simp) rfl]
theorem first_nil {W : World} (w : Bool) : Calls Tryz.prog 37 #[nilS, fnV w] W fun en w' => en = .returned (.tuple #[fV 0, .bool false]) ∧ Below W.heap.size W w' :=
  call_came (e := 37) (rows := []) zerosFlat_here mixed_here (orH_ok _) (f_nil w) All.nil (wf_bare 0) rfl rfl (fun id h => absurd h (Nat.not_lt_zero _)) (fun r hr => by cases hr) (.cons (.sliceNil 0 0) (VL.flat _ (by cases w <;> rfl)))
theorem numbers_nil {W : World} : Calls Tryz.prog 38 #[nilS] W fun en w' => en = .returned nilS ∧ Below W.heap.size W w' :=
  call_came (e := 37) (rows := []) zerosFlat_here mixed_here (orH_ok _) n_nil All.nil (wf_bare 0) rfl rfl (fun id h => absurd h (Nat.not_lt_zero _)) (fun r hr => by cases hr) (.cons (.sliceNil 0 0) .nil)
end Go.Proofs.YthidmnghdoipiaaGreatDoor
