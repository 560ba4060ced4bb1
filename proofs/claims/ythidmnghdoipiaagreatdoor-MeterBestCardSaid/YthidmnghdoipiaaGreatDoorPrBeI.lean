/- Meter: the first and the last one: the whole call. -/
import Derived.Test.YthidmnghdoipiaaGreatDoorPrBeH
namespace Go.Proofs.YthidmnghdoipiaaGreatDoor
open Go Go.RowKit Go.Ev
theorem s116 : small 116 = true := rfl
theorem nats_fl (xs : List Nat) : nats (fl xs) = xs := by
  unfold nats fl
  rw [List.map_map]
  exact List.map_id' xs
theorem take_fl (xs : List Nat) (n : Nat) : takeL (fl xs) 0 n = fl (xs.take n) := by
  unfold takeL fl
  rw [List.drop_zero, List.map_take]
theorem rowP_fl {xs : List Nat} {n c : Nat} (hn : n ≤ xs.length) (h8 : n * 8 ≤ 140737488355328) (hc : 0 < c ∨ n = 0) : All (rowP (fl xs) n c) :=
  All.cons (by rw [nats_fl]) (All.cons (by rw [fl_len]; exact hn) (All.cons h8 (All.cons hc All.nil)))
theorem bX_take (w : Bool) (xs : List Nat) (n : Nat) : bX w (takeL (fl xs) 0 n) n = bestR w xs n := by
  unfold bX
  rw [take_fl, nats_fl]
  unfold bestR numsT
  rw [List.take_take, Nat.min_self]
theorem sides_all {xs : List Nat} (hW : W64s xs) {n : Nat} (hn : n ≤ xs.length) : All (sidesP (takeL (fl xs) 0 n) (fl xs) n) := by
  unfold sidesP
  rw [bX_take, bX_take, nats_fl, rK_best false hW n hn, rK_best true hW n hn]
  exact All.cons (bits_self _) (All.cons (by simp) (All.cons (bits_self _) (All.cons (by simp) All.nil)))
theorem pre_all {xs : List Nat} (hW : W64s xs) {n c : Nat} (h0 : 0 < n) (hn : n ≤ xs.length) (h8 : n * 8 ≤ 140737488355328) (hc : 0 < c ∨ n = 0) : All (preP (fl xs) n c) := by
  have ho : All (rowP (takeL (fl xs) 0 n) n n) := by
    rw [take_fl]
    exact rowP_fl (by rw [List.length_take]; omega) h8 (.inl h0)
  have hr := rowP_fl (c := c) hn h8 hc
  unfold preP
  refine All.append (All.cons h0 (All.cons (by omega) (All.cons h8 (All.cons (by rw [fl_len]; omega) (All.cons (by rw [take_fl]; exact fl_one _) All.nil))))) (All.append ho (All.append (All.cons (.inr rfl) hr) (All.append ho (All.append (All.cons (.inl rfl) hr) (sides_all hW hn)))))
/-- What stands in 'back', behind so many rounds. -/
abbrev backK (xs : List Nat) (n k : Nat) : List Nat := (xs.take n).reverse.take k
abbrev outL (xs : List Nat) (n : Nat) : Nat → Value
  | 0 => nilS
  | k + 1 => pK 2 (k + 1) (k + 1)
abbrev objB (xs : List Nat) (n : Nat) : Nat → List (Option AObj)
  | 0 => [viewF (fl xs), rowF (fl (xs.take n))]
  | k + 1 => [viewF (fl xs), rowF (fl (xs.take n)), rowF (fl (backK xs n (k + 1)))]
section
variable {W : World} {xs : List Nat} {n c : Nat}
theorem back_next (hn : n ≤ xs.length) {k : Nat} (hk : k < n) : backK xs n (k + 1) = backK xs n k ++ [xs.getD (n - 1 - k) 0] := by
  unfold backK
  have hl : (xs.take n).reverse.length = n := by rw [List.length_reverse, List.length_take]; omega
  rw [List.take_add_one]
  congr 1
  rw [List.getElem?_reverse (by rw [List.length_take]; omega), List.length_take, Nat.min_eq_left hn, List.getElem?_take, if_pos (by omega), List.getElem?_eq_getElem (by omega), List.getD_eq_getElem?_getD, List.getElem?_eq_getElem (by omega)]
  rfl
theorem back_len (hn : n ≤ xs.length) {k : Nat} (hk : k ≤ n) : (backK xs n k).length = k := by
  unfold backK
  rw [List.length_take, List.length_reverse, List.length_take]; omega
theorem inP_i (xs : List Nat) {m i : Nat} (hm : m ≤ xs.length) (hi : i < m) : All (inP (fl xs) m (i : Int)) := inP_all hm hi
theorem lo_all (hn : n ≤ xs.length) {i : Nat} (hi : i < n) : All (loP (fl xs) (fl (xs.take n)) n (i : Int)) := by
  have hl : (xs.take n).length = n := by rw [List.length_take]; omega
  unfold loP
  refine All.cons (by simp) (All.append (inP_i (xs.take n) (by omega) hi) (All.append (inP_i xs hn hi) (All.cons ?_ (inP_i xs hn hi))))
  rw [at1_eq, (fl_at (xs := xs) (k := i) (by omega)).2, (fl_at (xs := xs.take n) (k := i) (by omega)).2, List.getElem_take]
  exact bits_self _
theorem round_l (hn : n ≤ xs.length) (h8 : n * 8 ≤ 140737488355328) {x y : Nat} {ok : Bool} (k : Nat) {a : Act} {w : World} (hk : k ≤ n) (h0 : 0 < n) (hs : Here Tryz.prog 1 W 116 (liveB n c (pK 1 n n) x y ok (outL xs n k) ((n : Int) - 1 - k)) (objB xs n k) a w) :
    loopL.wp Tryz.prog (fun e a' w' => (e = .normal ∧ ∃ k', k' ≤ n ∧ n - k' < n - k ∧ Here Tryz.prog 1 W 116 (liveB n c (pK 1 n n) x y ok (outL xs n k') ((n : Int) - 1 - k')) (objB xs n k') a' w') ∨
      (e = .exit 0 ∧ Here Tryz.prog 1 W 116 (liveB n c (pK 1 n n) x y ok (pK 2 n n) (-1)) [viewF (fl xs), rowF (fl (xs.take n)), rowF (fl (xs.take n).reverse)] a' w')) a w := by
  by_cases hlt : k < n
  · have hi : ((n : Int) - 1 - k) = ((n - 1 - k : Nat) : Int) := by omega
    have hi' : ((n : Int) - 1 - (k + 1 : Nat)) = ((n - 1 - k : Nat) : Int) - 1 := by omega
    have hw : All [IntKind.i64.wrap (((n - 1 - k : Nat) : Int) - 1) = ((n - 1 - k : Nat) : Int) - 1] := All.cons (w_in (by omega) (by omega)) All.nil
    have hx : fltAt (fl xs) (at1 ((n - 1 - k : Nat) : Int)) = xs.getD (n - 1 - k) 0 := by
      rw [at1_eq, (fl_at (xs := xs) (k := n - 1 - k) (by omega)).2, List.getD_eq_getElem?_getD, List.getElem?_eq_getElem (by omega)]
      rfl
    have e := back_next (xs := xs) hn hlt
    rw [hi] at hs
    have hlo := lo_all (xs := xs) hn (i := n - 1 - k) (by omega)
    cases k with
    | zero =>
      have sg := seg_run (m := 1) zerosFlat_here mixed_here (beH_ok _) s116 (fun f => l_first (fl xs) (fl (xs.take n)) n c x y ok ((n - 1 - 0 : Nat) : Int) f)
        (All.append hlo (All.append (All.cons (by omega) (All.cons (by omega) (All.cons (by omega) (All.cons (by simp) (All.cons rfl All.nil))))) hw)) rfl rfl rfl
      refine Here.seg s116 sg (fun _ _ h => ExR.normal_only h) (by unfold BIG; simp) (by unfold BIG; simp) hs fun a' w' hs' => .inl ⟨rfl, 1, by omega, by omega, ?_⟩
      rw [hx] at hs'
      rw [hi']
      show Here Tryz.prog 1 W 116 _ [viewF (fl xs), rowF (fl (xs.take n)), rowF (fl (backK xs n (0 + 1)))] a' w'
      rw [e]
      exact Here.move [0, 1, 3] s116 (by unfold BIG; simp) rfl rfl (by show (flatL (fl xs) && (flatL (fl (xs.take n)) && (true && true))) = true; rw [fl_flat, fl_flat]; rfl) rfl rfl hs'
    | succ k =>
      have hq := back_len (xs := xs) hn hk
      have hd : (fl (backK xs n (k + 1))).length = k + 1 := by rw [fl_len, hq]
      have sg := seg_run (m := 1) zerosFlat_here mixed_here (beH_ok _) s116 (fun f => l_next (fl xs) (fl (xs.take n)) (fl (backK xs n (k + 1))) n c (k + 1) x y ok ((n - 1 - (k + 1) : Nat) : Int) f)
        (All.append hlo (All.append (All.cons (by omega) (All.cons (by omega) (All.cons (by omega) (All.cons (by omega) (All.cons (by omega) (All.cons (by omega) (All.cons (by simp) (All.cons (by rw [take_whole hd]; exact fl_one _) (All.cons rfl All.nil))))))))) hw)) rfl rfl rfl
      refine Here.seg s116 sg (fun _ _ h => ExR.normal_only h) (by unfold BIG; simp) (by unfold BIG; simp) hs fun a' w' hs' => .inl ⟨rfl, k + 1 + 1, by omega, by omega, ?_⟩
      rw [hx, take_whole hd] at hs'
      rw [hi']
      show Here Tryz.prog 1 W 116 _ [viewF (fl xs), rowF (fl (xs.take n)), rowF (fl (backK xs n (k + 1 + 1)))] a' w'
      rw [e, fl_app]
      exact Here.move [0, 1, 4] s116 (by unfold BIG; simp) rfl rfl (by
        have e3 : fl (backK xs n (k + 1)) ++ takeL [Value.float .f64 (xs.getD (n - 1 - (k + 1)) 0)] 0 1 = fl (backK xs n (k + 1) ++ [xs.getD (n - 1 - (k + 1)) 0]) := by rw [fl_app]; rfl
        show (flatL (fl xs) && (flatL (fl (xs.take n)) && (flatL (fl (backK xs n (k + 1)) ++ fl [xs.getD (n - 1 - (k + 1)) 0]) && true))) = true
        rw [← fl_app, fl_flat, fl_flat, fl_flat]; rfl) rfl rfl hs'
  · obtain rfl : k = n := by omega
    have e1 : ((k : Int) - 1 - k) = -1 := by omega
    rw [e1] at hs
    have hb : backK xs k k = (xs.take k).reverse := by
      unfold backK
      rw [List.take_of_length_le]
      rw [List.length_reverse, List.length_take]; omega
    cases k with
    | zero => omega
    | succ k =>
      have sg := seg_run (m := 1) zerosFlat_here mixed_here (beH_ok _) s116 (fun f => l_end (fl xs) (fl (xs.take (k + 1))) (fl (backK xs (k + 1) (k + 1))) (k + 1) c (k + 1) x y ok (-1) f) (All.cons (by simp) All.nil) rfl rfl rfl
      refine Here.seg s116 sg (fun _ _ h => ExR.exit_only h) (by unfold BIG; simp) (by unfold BIG; simp) hs fun a' w' hs' => .inr ⟨rfl, ?_⟩
      rw [hb] at hs'
      exact hs'
end
theorem tl_all {xs : List Nat} (hW : W64s xs) {n : Nat} (hn : n ≤ xs.length) (h0 : 0 < n) (h8 : n * 8 ≤ 140737488355328) : All (tlP (fl (xs.take n).reverse) n (bestR false xs n).1 (bestR true xs n).1 (bestR false xs n).2) := by
  have hl : (xs.take n).length = n := by rw [List.length_take]; omega
  have hr : All (rowP (fl (xs.take n).reverse) n n) := rowP_fl (by rw [List.length_reverse, hl]; exact Nat.le_refl n) h8 (.inl h0)
  have hW' : W64s (xs.take n) := fun x hx => hW x (List.mem_of_mem_take hx)
  have e : ∀ w, bX w (fl (xs.take n).reverse) n = bestR w xs n := fun w => by
    unfold bX
    rw [nats_fl]
    have := bestR_rev w hW'
    rw [hl] at this
    rw [this]
    unfold bestR numsT
    rw [List.take_take, Nat.min_self]
  unfold tlP
  rw [e, e]
  refine All.append hr (All.append hr (All.append (All.cons (bits_self _) (All.cons (bits_self _) (All.cons rfl All.nil))) ?_))
  cases h : (bestR false xs n).2 with
  | false => exact All.nil
  | true => exact All.cons (best_le hW n h) All.nil
theorem best_law {W : World} {xs : List Nat} {ad : Addr} {n c : Nat} (hW : W64s xs) (hn : n ≤ xs.length) (hc : n ≤ c) (h8 : n * 8 ≤ 140737488355328) (ca : Came W (fl xs) ad) :
    Calls Tryz.prog 4 #[.slice (some ad) n c] W fun e W' => e = .returned (.bool true) ∧ Below W.heap.size W W' := by
  rcases Nat.eq_zero_or_pos n with rfl | h0
  · have hr := rowP_fl (xs := xs) (n := 0) (c := c) (Nat.zero_le _) (by omega) (.inr rfl)
    exact call_came (e := 37) (rows := [(fl xs, ad)]) zerosFlat_here mixed_here (beH_ok _) (l_empty (fl xs) c) (All.append (All.cons (.inr rfl) hr) (All.append (All.cons (.inl rfl) hr) (All.cons (bits_self _) (All.cons rfl (All.cons (bits_self _) (All.cons rfl (All.cons (bits_self _) (All.cons (bits_self _) All.nil))))))))
      (rowH_wf ..) rfl rfl (fun id h => cameH_get _ _ ad id h) (fun r hr => by obtain rfl := List.mem_singleton.1 hr; exact ca) (.cons (came_slice (id := 0) (r := (fl xs, ad)) rfl ca.spot 0 c) .nil)
  · refine here_calls (m := 1) (N := 116) (s := 2) (e := 37) (t := true) (rows := [(fl xs, ad)]) (args := [pSl n c]) (live := [(0, pSl n c)]) f4_at f4_body (by kernel_rfl) rfl (fun r hr => by obtain rfl := List.mem_singleton.1 hr; exact ca)
      (.cons (came_slice (id := 0) (r := (fl xs, ad)) rfl ca.spot n c) .nil) (by kernel_rfl) s116 ⟨rfl, trivial⟩ fun ac hs => ?_
    have sp := seg_split (m := 1) zerosFlat_here mixed_here (beH_ok _) s116 splitL (fun f => l_pre (fl xs) n c f) (pre_all hW h0 hn h8 (.inl (by omega))) rfl rfl rfl
    refine Here.seg (Q := fun _ a1 w1 => Here Tryz.prog 1 W 116 _ _ a1 w1) s116 sp (fun _ _ h => ExR.normal_only h) (by unfold BIG; simp) (by unfold BIG; simp) hs (fun a1 w1 h => h) (fun ex a' w' => (ex = .ret ∨ ex = .normal) ∧ ∃ live' obj', (2, .bool true) ∈ live' ∧ Here Tryz.prog 1 W 116 live' obj' a' w') fun a1 w1 hs1 => ?_
    rw [restL_eq]
    refine wp_seq (wp_seq ?_)
    have e1 := bX_take false xs n
    have e2 := bX_take true xs n
    simp only [e1, e2] at hs1
    rw [take_fl] at hs1
    have si := seg_run (m := 1) zerosFlat_here mixed_here (beH_ok _) s116 (fun f => l_init (fl xs) (fl (xs.take n)) n c (bestR false xs n).1 (bestR true xs n).1 (bestR false xs n).2 f) (All.cons (w_in (by omega) (by omega)) All.nil) rfl rfl rfl
    refine Here.seg s116 si (fun _ _ h => ExR.normal_only h) (by unfold BIG; simp) (by unfold BIG; simp) hs1 fun a2 w2 hs2 => ?_
    refine Here.loopX (D := Nat) (fun k => n - k) (fun k => k ≤ n) (fun a' w' => Here Tryz.prog 1 W 116 (liveB n c (pK 1 n n) (bestR false xs n).1 (bestR true xs n).1 (bestR false xs n).2 (pK 2 n n) (-1)) [viewF (fl xs), rowF (fl (xs.take n)), rowF (fl (xs.take n).reverse)] a' w')
      (live := fun k => liveB n c (pK 1 n n) (bestR false xs n).1 (bestR true xs n).1 (bestR false xs n).2 (outL xs n k) ((n : Int) - 1 - k)) (obj := fun k => objB xs n k)
      (fun k a w hk hh => round_l hn h8 k hk h0 hh) 0 a2 w2 _ (Nat.zero_le _) (by
        have e : ((n : Int) - 1 - (0 : Nat)) = (n : Int) - 1 := by omega
        simp only [e]
        exact hs2) fun a3 w3 hs3 => ?_
    have st := seg_run (m := 1) zerosFlat_here mixed_here (beH_ok _) s116 (fun f => l_tail (fl xs) (fl (xs.take n)) (fl (xs.take n).reverse) n c n (bestR false xs n).1 (bestR true xs n).1 (bestR false xs n).2 (-1) f) (tl_all hW hn h0 h8) rfl rfl rfl
    exact Here.seg s116 st (fun _ _ h => ExR.ret_only h) (by unfold BIG; simp) (by unfold BIG; simp) hs3 fun a4 w4 hs4 => ⟨.inl rfl, _, _, by simp, hs4⟩
theorem best_law_nil {W : World} : Calls Tryz.prog 4 #[nilS] W fun e W' => e = .returned (.bool true) ∧ Below W.heap.size W W' :=
  call_came (e := 37) (rows := []) zerosFlat_here mixed_here (beH_ok _) l_nil All.nil (wf_bare 0) rfl rfl (fun id h => absurd h (Nat.not_lt_zero _)) (fun r hr => by cases hr) (.cons (.sliceNil 0 0) .nil)
end Go.Proofs.YthidmnghdoipiaaGreatDoor
