/- IP: a sum behind what it sums: the law's code, from its pieces. -/
import Derived.Test.YtnfijnioclcnmaaDoorPrIpN
namespace Go.Proofs.YtnfijnioclcnmaaDoor
open Go Go.RowKit Go.Ev

def objD (cs r : List Value) (p x : Int) : Nat → List (Option AObj)
  | 0 => [viewO cs, rowO r]
  | k + 1 => [viewO cs, rowO r, rowO (dRow cs 0 p x (k + 1))]
def liveD (n c : Nat) (x s : Int) (P : Nat) (k : Nat) : List (Nat × Value) := live4 0 n c x s (P : Int) (n + 2) (dVal k) (k : Int)
abbrev endQ (W : World) : WPost := fun ex a' w' => (ex = .ret ∨ ex = .normal) ∧ ∃ live' obj', (4, .bool true) ∈ live' ∧ Here Tryd.prog 1 W 86 live' obj' a' w'
theorem w8_eq (y : Int) : W8 y = y % 256 := by
  unfold W8 IntKind.wrap
  simp only [IntKind.signed, IntKind.bits, Bool.false_and, Bool.false_eq_true, if_false]
  rfl
theorem s86 : small 86 = true := rfl
section
variable {cs : List Value} {n P : Nat} {x : Int} (hb : Bytes cs 0 n) (hP : n = 2 * P) (h1 : 1 ≤ P)
include hb hP h1
theorem lp_all (k : Nat) (hk : k < P) : All (lpP cs 0 n (P : Int) x (k : Int)) := by
  have hs := hb.small
  have h1' := tmod_in (p := (P : Int)) (by omega) x
  have h2 := tmod_in (p := (P : Int)) (by omega) ((k : Int) + x.tmod P)
  have hi := ixN_lt hb hP h1 (x := x) k
  have e := idxV_eq (P := P) (by omega) x k
  have e' : idxV (P : Int) x (k : Int) = ((ixN P x k : Nat) : Int) := e
  unfold lpP
  rw [e']
  obtain ⟨a0, _, _⟩ := byte_bounds hb (i := 2 * ((ixN P x k : Nat) : Int)) (by omega) (by omega)
  obtain ⟨b0, _, _⟩ := byte_bounds hb (i := 2 * ((ixN P x k : Nat) : Int) + 1) (by omega) (by omega)
  exact All.cons (by simp; omega) (All.cons (by omega) (All.cons rfl (All.cons (wrap_in (by omega) (by omega)) (All.cons (by omega) (All.cons rfl (All.cons (wrap_in (by omega) (by omega)) (All.cons (by omega) (All.cons rfl
    (All.cons (wrap_in (by omega) (by omega)) (All.cons ⟨by omega, by omega⟩ (All.cons a0 (All.cons (wrap_in (by omega) (by omega)) (All.cons (wrap_in (by omega) (by omega)) (All.cons ⟨by omega, by omega⟩ (All.cons b0 All.nil)))))))))))))))
theorem flat_view : flatO (viewO cs) = true := by
  have _ := h1
  have _ := hP
  exact hb.flat
theorem flat_d (k : Nat) (hk : k ≤ P) : flatO (rowO (dRow cs 0 (P : Int) x k)) = true := (dRow_bytes hb hP h1 (x := x) k hk).flat
/-- A round. -/
theorem d_round {W : World} {c : Nat} {s : Int} {r : List Value} (hr : flatL r = true) (k : Nat) (a : Act) (w : World) (hk : k ≤ P) (hs : Here Tryd.prog 1 W 86 (liveD n c x s P k) (objD cs r P x k) a w) :
    loop4.wp Tryd.prog (fun e a' w' => (e = .normal ∧ ∃ k', k' ≤ P ∧ P - k' < P - k ∧ liveD n c x s P P = liveD n c x s P P ∧ objD cs r P x P = objD cs r P x P ∧ Here Tryd.prog 1 W 86 (liveD n c x s P k') (objD cs r P x k') a' w') ∨
      (e = .exit 0 ∧ Here Tryd.prog 1 W 86 (liveD n c x s P P) (objD cs r P x P) a' w')) a w := by
  have hsm := hb.small
  have hlen := dRow_len (cs := cs) (P := P) (x := x)
  have hpu8 : ∀ k', (takeL (pairL cs 0 (idxV (P : Int) x k')) 0 2).all oneCell = true := fun _ => rfl
  rcases Nat.lt_or_ge k P with hlt | hge
  · have hlp := lp_all hb hP h1 (x := x) k hlt
    cases k with
    | zero =>
      have sg := seg_run (m := 1) zerosFlat_here mixed_here (sumsH_ok _) s86 (fun f => r_first cs r 0 n c (n + 2) x s (P : Int) f) (All.append hlp (All.append (All.cons (by omega) (All.cons (by omega) (All.cons (by simp [pairL]) (All.cons rfl All.nil)))) (All.cons rfl All.nil))) rfl rfl rfl
      refine Here.seg s86 sg (fun _ _ h => ExR.normal_only h) (by unfold BIG; simp) (by unfold BIG; simp) hs fun a' w' hs' => .inl ⟨rfl, 1, by omega, by omega, rfl, rfl, ?_⟩
      refine Here.move [0, 1, 3] s86 (by unfold BIG; simp) rfl rfl ?_ rfl rfl hs'
      show (flatO (viewO cs) && (flatO (rowO r) && (flatO (rowO (dRow cs 0 (P : Int) x 1)) && true))) = true
      rw [flat_view hb hP h1, flat_d hb hP h1 1 h1]
      show (true && (flatL r && (true && true))) = true
      rw [hr]; rfl
    | succ j =>
      have hd := hlen (j + 1)
      have hdb := dRow_bytes hb hP h1 (x := x) (j + 1) hk
      have sg := seg_run (m := 1) zerosFlat_here mixed_here (sumsH_ok _) s86 (fun f => r_next cs r (dRow cs 0 P x (j + 1)) 0 n c (n + 2) (2 * (j + 1)) x s (P : Int) ((j + 1 : Nat) : Int) f)
        (All.append hlp (All.append (All.cons (by omega) (All.cons (by omega) (All.cons (by omega) (All.cons (by omega) (All.cons (by omega) (All.cons (by simp [pairL]) (All.cons (all_one (all_u8 hdb (Nat.le_refl _))) (All.cons rfl All.nil)))))))) (All.cons (wrap_in (by omega) (by omega)) All.nil))) rfl rfl rfl
      refine Here.seg s86 sg (fun _ _ h => ExR.normal_only h) (by unfold BIG; simp) (by unfold BIG; simp) hs fun a' w' hs' => .inl ⟨rfl, j + 2, by omega, by omega, rfl, rfl, ?_⟩
      refine Here.move [0, 1, 4] s86 (by unfold BIG; simp) rfl rfl ?_ rfl rfl hs'
      show (flatO (viewO cs) && (flatO (rowO r) && (flatO (rowO (dRow cs 0 (P : Int) x (j + 2))) && true))) = true
      rw [flat_view hb hP h1, flat_d hb hP h1 (j + 2) (by omega)]
      show (true && (flatL r && (true && true))) = true
      rw [hr]; rfl
  · obtain rfl : k = P := by omega
    obtain ⟨j, rfl⟩ : ∃ j, k = j + 1 := ⟨k - 1, by omega⟩
    have sg := seg_run (m := 1) zerosFlat_here mixed_here (sumsH_ok _) s86 (fun f => r_done cs r (dRow cs 0 ((j + 1 : Nat) : Int) x (j + 1)) 0 n c (n + 2) (2 * (j + 1)) x s ((j + 1 : Nat) : Int) ((j + 1 : Nat) : Int) f) (All.cons (by simp) All.nil) rfl rfl rfl
    exact Here.seg s86 sg (fun _ _ h => ExR.exit_only h) (by unfold BIG; simp) (by unfold BIG; simp) hs fun a' w' hs' => .inr ⟨rfl, hs'⟩
/-- Behind the first pieces. -/
theorem rest_wp {W : World} {c : Nat} (hs2 : n + 2 ≤ 140737488355328) {a : Act} {w : World}
    (hs : Here Tryd.prog 1 W 86 [(0, pSo 0 n c), (1, .int .i64 x), (5, .int .i64 (sumV cs 0 n)), (6, pK 3 (n + 2) (n + 2)), (7, .slice none 0 0), (8, .int .i64 (P : Int))] (preObj cs 0 n) a w) : rest4.wp Tryd.prog (endQ W) a w := by
  obtain ⟨hB, hz⟩ := cRow_bytes hb hP h1 hs2
  obtain ⟨s0, s1, _⟩ := sum_in hb hP h1
  have hm : Here Tryd.prog 1 W 86 [(0, pSo 0 n c), (1, .int .i64 x), (5, .int .i64 (sumV cs 0 n)), (6, pK 1 (n + 2) (n + 2)), (7, .slice none 0 0), (8, .int .i64 (P : Int))] [viewO cs, rowO (cRow cs 0 n)] a w := by
    refine Here.move [0, 3] s86 (by unfold BIG; simp) rfl rfl ?_ rfl rfl hs
    show (flatO (viewO cs) && (flatO (rowO (cRow cs 0 n)) && true)) = true
    rw [flat_view hb hP h1]
    show (true && (flatL (cRow cs 0 n) && true)) = true
    rw [hB.flat]; rfl
  rw [rest4_eq]
  refine wp_seq (wp_seq ?_)
  have si := seg_run (m := 1) zerosFlat_here mixed_here (sumsH_ok _) s86 (fun f => r_init cs (cRow cs 0 n) 0 n c (n + 2) x (sumV cs 0 n) (P : Int) f) All.nil rfl rfl rfl
  refine Here.seg s86 si (fun _ _ h => ExR.normal_only h) (by unfold BIG; simp) (by unfold BIG; simp) hm fun a1 w1 hs1 => ?_
  refine Here.loop (fun k => P - k) (fun k => k ≤ P) (live := liveD n c x (sumV cs 0 n) P) (livef := fun _ => liveD n c x (sumV cs 0 n) P P) (obj := objD cs (cRow cs 0 n) P x) (objf := fun _ => objD cs (cRow cs 0 n) P x P)
    (fun k a w hk hh => d_round hb hP h1 hB.flat k a w hk hh) 0 a1 w1 _ (Nat.zero_le _) hs1 fun a2 w2 hs3 => ?_
  obtain ⟨j, rfl⟩ : ∃ j, P = j + 1 := ⟨P - 1, by omega⟩
  have hD := dRow_bytes hb hP h1 (x := x) (j + 1) (Nat.le_refl _)
  have hS := dRow_sum hb hP h1 (x := x)
  have st := seg_run (m := 1) zerosFlat_here mixed_here (sumsH_ok _) s86 (fun f => r_tail cs (cRow cs 0 n) (dRow cs 0 ((j + 1 : Nat) : Int) x (j + 1)) 0 n c (n + 2) (2 * (j + 1)) x (sumV cs 0 n) ((j + 1 : Nat) : Int) ((j + 1 : Nat) : Int) f)
    (All.cons (by simpa using s0) (All.cons (by simpa using s1) (All.cons hB (All.cons (by rw [hz]; rfl) (All.cons hD (All.cons (by rw [hS]; simp) All.nil)))))) rfl rfl rfl
  exact Here.seg s86 st (fun _ _ h => ExR.ret_only h) (by unfold BIG; simp) (by unfold BIG; simp) hs3 fun a3 w3 hs4 => ⟨.inl rfl, _, _, by simp, hs4⟩
theorem pre_all (hs2 : n + 2 ≤ 140737488355328) : All (preP cs 0 n) := by
  have hs := hb.small
  have hl := bytes_len hb
  obtain ⟨s0, s1, _⟩ := sum_in hb hP h1
  have hT := take_bytes hb (Nat.le_refl n)
  have hlT : (takeL cs 0 n).length = n := len_takeL (by omega)
  have d1 : (sumV cs 0 n).tdiv 256 = sumV cs 0 n / 256 := Int.tdiv_eq_ediv_of_nonneg s0
  have d2 : (n : Int).tdiv 2 = (n : Int) / 2 := Int.tdiv_eq_ediv_of_nonneg (by omega)
  unfold preP
  rw [d1, d2, w8_eq, w8_eq]
  exact All.cons hb (All.cons (by omega) (All.cons hs (All.cons (by omega) (All.cons (all_one (all_u8 hb (Nat.le_refl n))) (All.cons (wrap_in (by omega) (by omega)) (All.cons (by omega) (All.cons rfl
    (All.cons (by omega) (All.cons (by omega) (All.cons (by omega) (All.cons hs2 (All.cons (by omega) (All.cons (by simp [twoB]) (All.cons (all_one (all_u8 hT (Nat.le_refl n))) (All.cons rfl (All.cons (wrap_in (by omega) (by omega)) All.nil))))))))))))))))
end
/-- The law's call, where there are two bytes at least. -/
theorem sums_call {W : World} {cs : List Value} {a : Addr} {n c : Nat} {x : Int} (hcs : cs.length ≤ 140737488351232) (hb : Bytes cs 0 n) (hc : n ≤ c) (h2 : 2 ≤ n) (ca : Came W cs a) :
    Calls Tryd.prog 4 #[.slice (some a) n c, .int .i64 x] W fun e W' => e = .returned (.bool true) ∧ Below W.heap.size W W' := by
  have hl := bytes_len hb
  refine here_calls (m := 1) (N := 86) (s := 4) (e := 5) (t := true) (rows := [(cs, a)]) (args := [pSl n c, .int .i64 x]) (live := [(0, pSl n c), (1, .int .i64 x)]) f4_at f4_body (by kernel_rfl) rfl (fun r hr => by obtain rfl := List.mem_singleton.1 hr; exact ca)
    (.cons (came_slice (id := 0) (r := (cs, a)) rfl ca.spot n c) (VL.flat _ rfl)) (by kernel_rfl) s86 ⟨rfl, rfl, trivial⟩ fun ac hs => ?_
  rcases Nat.mod_two_eq_zero_or_one n with hpar | hpar
  · have hP : n = 2 * (n / 2) := by omega
    have hpre := pre_all hb hP (by omega) (by omega)
    have sp := seg_split (m := 1) zerosFlat_here mixed_here (sumsH_ok _) s86 split4 (fun f => r_even cs n c x f) (All.cons (by
      rw [bne_eq_false_iff_eq, Int.tmod_eq_emod_of_nonneg (by omega)]; omega) hpre) rfl rfl rfl
    refine Here.seg (Q := fun _ a1 w1 => Here Tryd.prog 1 W 86 _ _ a1 w1) s86 sp (fun _ _ h => ExR.normal_only h) (by unfold BIG; simp) (by unfold BIG; simp [preObj]) hs (fun a1 w1 h => h) (endQ W) fun a1 w1 hs1 => ?_
    have e : (n : Int) / 2 = ((n / 2 : Nat) : Int) := by omega
    have hs2 : Here Tryd.prog 1 W 86 [(0, pSo 0 n c), (1, .int .i64 x), (5, .int .i64 (sumV cs 0 n)), (6, pK 3 (n + 2) (n + 2)), (7, .slice none 0 0), (8, .int .i64 ((n : Int) / 2))] (preObj cs 0 n) a1 w1 := hs1
    rw [e] at hs2
    exact rest_wp hb hP (by omega) (by omega) hs2
  · have hN : oddN n = n - 1 := by unfold oddN; omega
    have hb' : Bytes cs 0 (n - 1) := by
      have := hb.small
      exact ⟨hb.flat, fun i hi => hb.at_ i (by omega), fun i hi => hb.lo i (by omega), fun i hi => hb.hi i (by omega), by omega⟩
    have hP : n - 1 = 2 * ((n - 1) / 2) := by omega
    have hpre := pre_all hb' hP (by omega) (by omega)
    have sp := seg_split (m := 1) zerosFlat_here mixed_here (sumsH_ok _) s86 split4 (fun f => r_odd cs n c x f) (All.cons (by
      rw [bne_iff_ne, Int.tmod_eq_emod_of_nonneg (by omega)]; omega) (All.cons (wrap_in (by omega) (by omega)) (All.cons hc (All.cons trivial (All.cons ⟨by omega, by omega⟩ (All.cons trivial (by rw [offT_zero, hN]; exact hpre))))))) rfl rfl rfl
    refine Here.seg (Q := fun _ a1 w1 => Here Tryd.prog 1 W 86 _ _ a1 w1) s86 sp (fun _ _ h => ExR.normal_only h) (by unfold BIG; simp) (by unfold BIG; simp [preObj]) hs (fun a1 w1 h => h) (endQ W) fun a1 w1 hs1 => ?_
    have hs2 : Here Tryd.prog 1 W 86 [(0, pSo (offT c) (oddN n) (c - 0)), (1, .int .i64 x), (5, .int .i64 (sumV cs (offT c) (oddN n))), (6, pK 3 (oddN n + 2) (oddN n + 2)), (7, .slice none 0 0), (8, .int .i64 ((oddN n : Int) / 2))] (preObj cs (offT c) (oddN n)) a1 w1 := hs1
    rw [offT_zero, hN] at hs2
    have e : (((n - 1 : Nat) : Int)) / 2 = (((n - 1) / 2 : Nat) : Int) := by omega
    rw [e] at hs2
    exact rest_wp hb' hP (by omega) (by omega) hs2
end Go.Proofs.YtnfijnioclcnmaaDoor
