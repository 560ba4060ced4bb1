/- Meter: the first and the last one: contracts of both sides. -/
import Derived.Test.YthidmnghdoipiaaGreatDoorPrBeE
namespace Go.Proofs.YthidmnghdoipiaaGreatDoor
open Go Go.RowKit Go.Ev

/-! ### the reference -/

def rK (w : Bool) (xs : List Nat) : Nat → Nat × Bool
  | 0 => (qnan, false)
  | k + 1 => (bif hitB (numB (xs.getD k 0)) (rK w xs k).2 (refF (xs.getD k 0) (rK w xs k).1 == sgnV w) then xs.getD k 0 else (rK w xs k).1, (rK w xs k).2 || hitB (numB (xs.getD k 0)) (rK w xs k).2 (refF (xs.getD k 0) (rK w xs k).1 == sgnV w))
theorem s45 : small 45 = true := rfl
section
variable {W : World} {xs : List Nat} {n c : Nat} {w : Bool}
theorem inP_all (hn : n ≤ xs.length) {k : Nat} (hk : k < n) : All (inP (fl xs) n (k : Int)) := by
  obtain ⟨h1, h2⟩ := fl_at (xs := xs) (k := k) (by omega)
  unfold inP
  rw [at1_eq, h2]
  exact All.cons ⟨by omega, by omega⟩ (All.cons h1 All.nil)
theorem round_r (hn : n ≤ xs.length) (hs : n ≤ 140737488355328) (k : Nat) {a : Act} {wd : World} (hk : k ≤ n) (hh : Here Tryz.prog 1 W 45 (liveR w n c (rK w xs k).1 (rK w xs k).2 (k : Int)) [viewF (fl xs)] a wd) :
    loopR.wp Tryz.prog (fun e a' w' => (e = .normal ∧ ∃ k', k' ≤ n ∧ n - k' < n - k ∧ Here Tryz.prog 1 W 45 (liveR w n c (rK w xs k').1 (rK w xs k').2 (k' : Int)) [viewF (fl xs)] a' w') ∨
      (e = .exit 0 ∧ Here Tryz.prog 1 W 45 (liveR w n c (rK w xs n).1 (rK w xs n).2 (n : Int)) [viewF (fl xs)] a' w')) a wd := by
  by_cases hlt : k < n
  · obtain ⟨h1, h2⟩ := fl_at (xs := xs) (k := k) (by omega)
    have hx : fltAt (fl xs) (at1 (k : Int)) = xs.getD k 0 := by
      rw [at1_eq, h2, List.getD_eq_getElem?_getD, List.getElem?_eq_getElem (by omega)]
      rfl
    have hin := inP_all hn hlt
    have sg := seg_run (m := 1) zerosFlat_here mixed_here (rfH_ok _) s45 (fun f => r_round (fl xs) w (rK w xs k).2 (numB (xs.getD k 0)) (refF (xs.getD k 0) (rK w xs k).1 == sgnV w) n c (rK w xs k).1 (k : Int) f) (by
      unfold rP
      rw [hx]
      refine All.append (All.cons (by simp; omega) All.nil) (All.append hin (All.append hin (All.append (All.cons rfl All.nil) (All.append ?_ (All.append ?_ (All.cons (w_in (by omega) (by omega)) All.nil))))))
      · cases (numB (xs.getD k 0) && (rK w xs k).2)
        · exact All.nil
        · exact All.append hin (All.cons rfl All.nil)
      · cases hitB (numB (xs.getD k 0)) (rK w xs k).2 (refF (xs.getD k 0) (rK w xs k).1 == sgnV w)
        · exact All.nil
        · exact hin) rfl rfl rfl
    refine Here.seg s45 sg (fun _ _ h => ExR.normal_only h) (by unfold BIG; simp) (by unfold BIG; simp) hh fun a' w' hs' => .inl ⟨rfl, k + 1, by omega, by omega, ?_⟩
    rw [hx] at hs'
    exact hs'
  · obtain rfl : k = n := by omega
    have sg := seg_run (m := 1) zerosFlat_here mixed_here (rfH_ok _) s45 (fun f => r_end (fl xs) w (rK w xs k).2 k c (rK w xs k).1 (k : Int) f) (All.cons (by simp) All.nil) rfl rfl rfl
    exact Here.seg s45 sg (fun _ _ h => ExR.exit_only h) (by unfold BIG; simp) (by unfold BIG; simp) hh fun a' w' hs' => .inr ⟨rfl, hs'⟩
end
abbrev pairV (x : Nat × Bool) : Value := .tuple #[fV x.1, .bool x.2]
theorem ref_calls {W : World} {xs : List Nat} {a : Addr} {n c : Nat} (w : Bool) (hn : n ≤ xs.length) (hs : n ≤ 140737488355328) (ca : Came W (fl xs) a) :
    Calls Tryz.prog 16 #[.slice (some a) n c, .int .i64 (sgnV w)] W fun en w' => en = .returned (pairV (rK w xs n)) ∧ Quiet W w' := by
  refine (here_calls_v (m := 1) (N := 45) (e := 37) (rows := [(fl xs, a)]) (args := [pSl n c, .int .i64 (sgnV w)]) (live := [(0, pSl n c), (1, .int .i64 (sgnV w))]) f16_at f16_body rfl (fun r hr => by obtain rfl := List.mem_singleton.1 hr; exact ca)
    (.cons (came_slice (id := 0) (r := (fl xs, a)) rfl ca.spot n c) (VL.flat _ rfl)) (by kernel_rfl) s45 ⟨rfl, rfl, trivial⟩ (fun v w' => v = pairV (rK w xs n) ∧ Below W.heap.size W w') fun ac hh => ?_).mono (fun en w' hen => by
      obtain ⟨v, rfl, rfl, hb⟩ := hen
      exact ⟨rfl, Below.quiet hb⟩)
  have sp := seg_split (m := 1) zerosFlat_here mixed_here (rfH_ok _) s45 splitR (fun f => r_pre (fl xs) w n c f) All.nil rfl rfl rfl
  refine Here.seg (Q := fun _ a1 w1 => Here Tryz.prog 1 W 45 _ _ a1 w1) s45 sp (fun _ _ h => ExR.normal_only h) (by unfold BIG; simp) (by unfold BIG; simp) hh (fun a1 w1 h => h) (fun ex a' w' => (ex = .ret ∨ ex = .normal) ∧ a'.defers = [] ∧ ∃ v, (results Tryz.f16 a'.tmps).run Tryz.prog w' = .ok v w' ∧ v = pairV (rK w xs n) ∧ Below W.heap.size W w') fun a1 w1 hs1 => ?_
  rw [restR_eq]
  refine wp_seq (wp_seq ?_)
  have si := seg_run (m := 1) zerosFlat_here mixed_here (rfH_ok _) s45 (fun f => r_init (fl xs) w n c f) All.nil rfl rfl rfl
  refine Here.seg s45 si (fun _ _ h => ExR.normal_only h) (by unfold BIG; simp) (by unfold BIG; simp) hs1 fun a2 w2 hs2 => ?_
  refine Here.loopX (D := Nat) (fun k => n - k) (fun k => k ≤ n) (fun a' w' => Here Tryz.prog 1 W 45 (liveR w n c (rK w xs n).1 (rK w xs n).2 (n : Int)) [viewF (fl xs)] a' w') (live := fun k => liveR w n c (rK w xs k).1 (rK w xs k).2 (k : Int)) (obj := fun _ => [viewF (fl xs)])
    (fun k a w hk hh => round_r hn hs k hk hh) 0 a2 w2 _ (Nat.zero_le _) hs2 fun a3 w3 hs3 => ?_
  have st := seg_run (m := 1) zerosFlat_here mixed_here (rfH_ok _) s45 (fun f => r_tail (fl xs) w (rK w xs n).2 n c (rK w xs n).1 (n : Int) f) All.nil rfl rfl rfl
  refine Here.seg s45 st (fun _ _ h => ExR.ret_only h) (by unfold BIG; simp) (by unfold BIG; simp) hs3 fun a4 w4 hs4 => ⟨.inl rfl, hs4.df, _, results_two (s := 4) (t := 5) (by kernel_rfl) _ _, ?_, hs4.below⟩
  rw [hs4.flat_at (s := 4) (v := fV (rK w xs n).1) (by simp) rfl, hs4.flat_at (s := 5) (v := .bool (rK w xs n).2) (by simp) rfl]
theorem ref_nil {W : World} (w : Bool) : Calls Tryz.prog 16 #[nilS, .int .i64 (sgnV w)] W fun en w' => en = .returned (pairV (rK w [] 0)) ∧ Quiet W w' :=
  (call_came (e := 37) (rows := []) zerosFlat_here mixed_here (rfH_ok _) (r_nil w) All.nil (wf_bare 0) rfl rfl (fun id h => absurd h (Nat.not_lt_zero _)) (fun r hr => by cases hr) (.cons (.sliceNil 0 0) (VL.flat _ rfl))).mono fun en w' h => ⟨h.1, Below.quiet h.2⟩

/-! ### Best and Worst -/

theorem numbers_none {W : World} {xs : List Nat} {a : Addr} {n c : Nat} (hn : n ≤ xs.length) (hs8 : n * 8 ≤ 140737488355328) (ca : Came W (fl xs) a) (h : numsT xs n = []) :
    Calls Tryz.prog 38 #[.slice (some a) n c] W fun en w' => en = .returned nilS ∧ Quiet W w' :=
  (numbers_calls hn hs8 ca).mono fun en w' hen => by
    obtain ⟨v, rfl, hv, hb⟩ := hen
    rcases hv with ⟨_, rfl⟩ | ⟨_, _, _, _, _, h0⟩
    · exact ⟨rfl, Below.quiet hb⟩
    · rw [h] at h0; exact absurd h0 (by simp)
def NumE (W : World) (ys : List Nat) (en : Ending) (w' : World) : Prop := ∃ a2 c2, en = .returned (.slice (some a2) ys.length c2) ∧ Came w' (fl ys) a2 ∧ Quiet W w'
theorem numbers_some {W : World} {xs : List Nat} {a : Addr} {n c : Nat} (hn : n ≤ xs.length) (hs8 : n * 8 ≤ 140737488355328) (ca : Came W (fl xs) a) (h : numsT xs n ≠ []) :
    Calls Tryz.prog 38 #[.slice (some a) n c] W (NumE W (numsT xs n)) :=
  (numbers_calls hn hs8 ca).mono fun en w' hen => by
    obtain ⟨v, rfl, hv, hb⟩ := hen
    rcases hv with ⟨h0, _⟩ | ⟨a2, c2, rfl, hca, _, _⟩
    · exact absurd h0 h
    · exact ⟨a2, c2, rfl, hca, Below.quiet hb⟩
theorem nan_run : plainOut 0 ((runHR Tryz.prog 0 (plainHints [] []) 30).2 21 [] (bare 0)) = some (.float .f64 qnan, []) := by kernel_rfl
theorem nan_tup (h : AH) : CTup Tryz.prog 0 21 [] h (.ret (.float .f64 qnan)) h :=
  plain_tup zerosFlat_here mixed_here (plainHints_ok Sums.Ok.nil) nan_run All.nil rfl h
theorem nan_any (w : World) : Calls Tryz.prog 21 #[] w fun e w' => e = .returned (fV qnan) ∧ Quiet w w' := calls_of_ctup nan_tup rfl rfl w
theorem told_qnan (w : World) : Calls Tryz.prog 20 #[fV qnan] w fun e w' => e = .returned (fV qnan) ∧ Quiet w w' :=
  (told_any qnan w).mono fun e w' h => ⟨by rw [h.1]; unfold toldF; rw [nan_qnan]; rfl, h.2⟩
/-- What Best and Worst answer. -/
def bestR (w : Bool) (xs : List Nat) (n : Nat) : Nat × Bool := if numsT xs n = [] then (qnan, false) else (bestK w (numsT xs n) (numsT xs n).length, true)
def EndB (W : World) (x : Nat × Bool) (e : Ending) (w' : World) : Prop := e = .returned (pairV x) ∧ Quiet W w'
theorem first_q {W : World} {ys : List Nat} {a : Addr} {c : Nat} (w : Bool) (h0 : ys ≠ []) (hs : ys.length ≤ 140737488355328) (ca : Came W (fl ys) a) :
    Calls Tryz.prog 37 #[.slice (some a) ys.length c, fnV w] W fun en w' => en = .returned (.tuple #[fV (bestK w ys ys.length), .bool true]) ∧ Quiet W w' :=
  (first_calls w (Nat.le_refl _) (by cases ys with | nil => exact absurd rfl h0 | cons _ _ => simp) hs ca).mono fun en w' h => ⟨h.1, Below.quiet h.2⟩
theorem first_nq {W : World} (w : Bool) : Calls Tryz.prog 37 #[nilS, fnV w] W fun en w' => en = .returned (.tuple #[fV 0, .bool false]) ∧ Quiet W w' :=
  (first_nil w).mono fun en w' h => ⟨h.1, Below.quiet h.2⟩
theorem numbers_nq {W : World} : Calls Tryz.prog 38 #[nilS] W fun en w' => en = .returned nilS ∧ Quiet W w' :=
  numbers_nil.mono fun en w' h => ⟨h.1, Below.quiet h.2⟩
section
variable {W : World} {xs : List Nat} {a : Addr} {n c : Nat}
set_option maxHeartbeats 400000 in
set_option maxRecDepth 100000 in
theorem best_some (hn : n ≤ xs.length) (hs8 : n * 8 ≤ 140737488355328) (ca : Came W (fl xs) a) (h : numsT xs n ≠ []) :
    Calls Tryz.prog 15 #[.slice (some a) n c] W (EndB W (bestK false (numsT xs n) (numsT xs n).length, true)) := by
  have hl : (numsT xs n).length ≤ 140737488355328 := Nat.le_trans (numsT_len xs n) (by omega)
  have HN := Lib.hid (numbers_some (c := c) hn hs8 ca h)
  go_enter Tryz.func15, Tryz.ntmps15
  go_wp2_with (first
    | (go_at_call 38; refine HN.out.mono ?_; rintro e w' ⟨a2, c2, rfl, hca, hq⟩; have HA := Lib.hid hca; have HQ := Lib.hid hq; clear hq hca)
    | (go_at_call 37; refine (first_q false h hl HA.out).mono ?_; rintro e w'' ⟨rfl, hq⟩; have HQ2 := Lib.hid hq; clear hq))
  go_ret2
  exact ⟨rfl, HQ.out.trans HQ2.out⟩
set_option maxHeartbeats 400000 in
set_option maxRecDepth 100000 in
theorem best_none (v : Value) (hc : Calls Tryz.prog 38 #[v] W fun en w' => en = .returned nilS ∧ Quiet W w') :
    Calls Tryz.prog 15 #[v] W (EndB W (qnan, false)) := by
  have HN := Lib.hid hc
  clear hc
  go_enter Tryz.func15, Tryz.ntmps15
  go_wp2_with (first
    | (go_at_call 38; refine HN.out.mono ?_; rintro e w' ⟨rfl, hq⟩; have HQ := Lib.hid hq; clear hq)
    | (go_at_call 37; refine (first_nq false).mono ?_; rintro e w'' ⟨rfl, hq⟩; have HQ2 := Lib.hid hq; clear hq)
    | (go_at_call 21; refine (nan_any _).mono ?_; rintro e w'' ⟨rfl, hq⟩; have HQ3 := Lib.hid hq; clear hq)
    | (go_at_call 20; refine (told_qnan _).mono ?_; rintro e w'' ⟨rfl, hq⟩; have HQ4 := Lib.hid hq; clear hq))
  go_ret2
  exact ⟨rfl, ((HQ.out.trans HQ2.out).trans HQ3.out).trans HQ4.out⟩
theorem best_calls (hn : n ≤ xs.length) (hs8 : n * 8 ≤ 140737488355328) (ca : Came W (fl xs) a) :
    Calls Tryz.prog 15 #[.slice (some a) n c] W (EndB W (bestR false xs n)) := by
  unfold bestR
  by_cases h : numsT xs n = []
  · rw [if_pos h]
    exact best_none _ (numbers_none hn hs8 ca h)
  · rw [if_neg h]
    exact best_some hn hs8 ca h
set_option maxHeartbeats 400000 in
set_option maxRecDepth 100000 in
theorem worst_some (hn : n ≤ xs.length) (hs8 : n * 8 ≤ 140737488355328) (ca : Came W (fl xs) a) (h : numsT xs n ≠ []) :
    Calls Tryz.prog 17 #[.slice (some a) n c] W (EndB W (bestK true (numsT xs n) (numsT xs n).length, true)) := by
  have hl : (numsT xs n).length ≤ 140737488355328 := Nat.le_trans (numsT_len xs n) (by omega)
  have HN := Lib.hid (numbers_some (c := c) hn hs8 ca h)
  go_enter Tryz.func17, Tryz.ntmps17
  go_wp2_with (first
    | (go_at_call 38; refine HN.out.mono ?_; rintro e w' ⟨a2, c2, rfl, hca, hq⟩; have HA := Lib.hid hca; have HQ := Lib.hid hq; clear hq hca)
    | (go_at_call 37; refine (first_q true h hl HA.out).mono ?_; rintro e w'' ⟨rfl, hq⟩; have HQ2 := Lib.hid hq; clear hq))
  go_ret2
  exact ⟨rfl, HQ.out.trans HQ2.out⟩
set_option maxHeartbeats 400000 in
set_option maxRecDepth 100000 in
theorem worst_none (v : Value) (hc : Calls Tryz.prog 38 #[v] W fun en w' => en = .returned nilS ∧ Quiet W w') :
    Calls Tryz.prog 17 #[v] W (EndB W (qnan, false)) := by
  have HN := Lib.hid hc
  clear hc
  go_enter Tryz.func17, Tryz.ntmps17
  go_wp2_with (first
    | (go_at_call 38; refine HN.out.mono ?_; rintro e w' ⟨rfl, hq⟩; have HQ := Lib.hid hq; clear hq)
    | (go_at_call 37; refine (first_nq true).mono ?_; rintro e w'' ⟨rfl, hq⟩; have HQ2 := Lib.hid hq; clear hq)
    | (go_at_call 21; refine (nan_any _).mono ?_; rintro e w'' ⟨rfl, hq⟩; have HQ3 := Lib.hid hq; clear hq)
    | (go_at_call 20; refine (told_qnan _).mono ?_; rintro e w'' ⟨rfl, hq⟩; have HQ4 := Lib.hid hq; clear hq))
  go_ret2
  exact ⟨rfl, ((HQ.out.trans HQ2.out).trans HQ3.out).trans HQ4.out⟩
theorem worst_calls (hn : n ≤ xs.length) (hs8 : n * 8 ≤ 140737488355328) (ca : Came W (fl xs) a) :
    Calls Tryz.prog 17 #[.slice (some a) n c] W (EndB W (bestR true xs n)) := by
  unfold bestR
  by_cases h : numsT xs n = []
  · rw [if_pos h]
    exact worst_none _ (numbers_none hn hs8 ca h)
  · rw [if_neg h]
    exact worst_some hn hs8 ca h
theorem best_nil : Calls Tryz.prog 15 #[nilS] W (EndB W (qnan, false)) := best_none _ numbers_nq
theorem worst_nil : Calls Tryz.prog 17 #[nilS] W (EndB W (qnan, false)) := worst_none _ numbers_nq
end
end Go.Proofs.YthidmnghdoipiaaGreatDoor
