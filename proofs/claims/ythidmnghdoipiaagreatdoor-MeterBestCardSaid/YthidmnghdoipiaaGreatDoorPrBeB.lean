/- Meter: the first and the last one: the numbers among floating-point words. -/
import Derived.Test.YthidmnghdoipiaaGreatDoorPrBeA
namespace Go.Proofs.YthidmnghdoipiaaGreatDoor
open Go Go.RowKit Go.Ev
theorem All.append {ps qs : List Prop} (h : All ps) (h' : All qs) : All (ps ++ qs) := fun p hp => (List.mem_append.1 hp).elim (h p) (h' p)
theorem All.nil : All [] := fun _ h => (by cases h)
theorem All.cons {p : Prop} {ps : List Prop} (h : p) (h' : All ps) : All (p :: ps) := fun q hq => by
  rcases List.mem_cons.1 hq with rfl | hq
  · exact h
  · exact h' q hq
theorem w_in {x : Int} (h0 : -9223372036854775808 ≤ x) (h1 : x < 9223372036854775808) : IntKind.i64.wrap x = x := wrap_in h0 h1
def fl (xs : List Nat) : List Value := xs.map fun x => .float .f64 x
theorem fl_len (xs : List Nat) : (fl xs).length = xs.length := by unfold fl; simp
theorem fl_flat : ∀ xs : List Nat, flatL (fl xs) = true
  | [] => rfl
  | x :: xs => by
    show (flatV (.float .f64 x) && flatL (fl xs)) = true
    rw [fl_flat xs]; rfl
theorem fl_one (xs : List Nat) : (fl xs).all oneCell = true := by
  rw [List.all_eq_true]
  intro v hv
  unfold fl at hv
  obtain ⟨x, _, rfl⟩ := List.mem_map.1 hv
  rfl
theorem fl_app (a b : List Nat) : fl (a ++ b) = fl a ++ fl b := by unfold fl; simp
theorem fl_at {xs : List Nat} {k : Nat} (h : k < xs.length) : nth (fl xs) k = some (.float .f64 xs[k]) ∧ fltAt (fl xs) k = xs[k] := by
  have e : nth (fl xs) k = some (.float .f64 xs[k]) := by
    rw [nth_eq]
    unfold fl
    rw [List.getElem?_map, List.getElem?_eq_getElem h]
    rfl
  exact ⟨e, by unfold fltAt; rw [e]⟩
theorem take_whole {l : List Value} {k : Nat} (h : l.length = k) : takeL l 0 k = l := by
  unfold takeL
  rw [List.drop_zero, ← h, List.take_length]
theorem at1_eq (k : Nat) : at1 (k : Int) = k := by unfold at1; rw [Int.toNat_natCast]; omega
def numB (x : Nat) : Bool := cmpF x x == some .eq
def numsT (xs : List Nat) (k : Nat) : List Nat := (xs.take k).filter numB
theorem numsT_next {xs : List Nat} {k : Nat} (h : k < xs.length) : numsT xs (k + 1) = numsT xs k ++ (if numB xs[k] then [xs[k]] else []) := by
  unfold numsT
  have e : xs.take (k + 1) = xs.take k ++ [xs[k]] := by rw [List.take_add_one, List.getElem?_eq_getElem h]; rfl
  rw [e, List.filter_append]
  cases hb : numB xs[k] <;> simp [hb]
theorem numsT_len (xs : List Nat) (k : Nat) : (numsT xs k).length ≤ k := by
  unfold numsT
  have := List.length_filter_le numB (xs.take k)
  rw [List.length_take] at this
  omega
def outV : List Nat → Value
  | [] => nilS
  | y :: ys => pK 1 (y :: ys).length (y :: ys).length
def objV (xs : List Nat) : List Nat → List (Option AObj)
  | [] => [viewF (fl xs)]
  | y :: ys => [viewF (fl xs), rowF (fl (y :: ys))]
theorem s21 : small 21 = true := rfl
section
variable {W : World} {xs : List Nat} {n c : Nat}
theorem nP_all (hn : n ≤ xs.length) {k : Nat} (hk : k < n) {nn : Bool} (h : numB (xs[k]'(by omega)) = nn) : All (nP (fl xs) n (k : Int) nn) := by
  obtain ⟨h1, h2⟩ := fl_at (xs := xs) (k := k) (by omega)
  unfold nP
  rw [at1_eq, h2]
  exact All.cons (by simp; omega) (All.cons ⟨by omega, by omega⟩ (All.cons h1 (All.cons h All.nil)))
theorem round_n (hn : n ≤ xs.length) (hs8 : n * 8 ≤ 140737488355328) (k : Nat) {a : Act} {w : World} (hk : k ≤ n) (hs : Here Tryz.prog 1 W 21 (liveN n c (outV (numsT xs k)) (k : Int)) (objV xs (numsT xs k)) a w) :
    loopN.wp Tryz.prog (fun e a' w' => (e = .normal ∧ ∃ k', k' ≤ n ∧ n - k' < n - k ∧ Here Tryz.prog 1 W 21 (liveN n c (outV (numsT xs k')) (k' : Int)) (objV xs (numsT xs k')) a' w') ∨
      (e = .exit 0 ∧ Here Tryz.prog 1 W 21 [(3, outV (numsT xs n))] (objV xs (numsT xs n)) a' w')) a w := by
  have hlen := numsT_len xs k
  have less : ∀ {live : List (Nat × Value)} {obj : List (Option AObj)} {a : Act} {w : World} {v : Value} {l : List (Nat × Value)}, live = (3, v) :: l → Here Tryz.prog 1 W 21 live obj a w → Here Tryz.prog 1 W 21 [(3, v)] obj a w := by
    intro live obj a w v l e h
    subst e
    obtain ⟨κ, G, f, s⟩ := h
    exact ⟨κ, G, f, s.rel, s.fr, s.n, s.ds, s.df, ⟨s.holds.1, trivial⟩, s.full, s.free, s.own, s.below⟩
  by_cases hlt : k < n
  · have hx : k < xs.length := by omega
    have hw : All [IntKind.i64.wrap ((k : Int) + 1) = (k : Int) + 1] := All.cons (w_in (by omega) (by omega)) All.nil
    have e := numsT_next hx
    have hv := (fl_at hx).2
    cases hb : numB xs[k] with
    | false =>
      rw [hb, if_neg (by simp), List.append_nil] at e
      have hp := All.append (nP_all hn hlt hb) hw
      cases hy : numsT xs k with
      | nil =>
        rw [hy] at hs e
        have sg := seg_run (m := 1) zerosFlat_here mixed_here (brH_ok _) s21 (fun f => n_skip (fl xs) n c (k : Int) f) hp rfl rfl rfl
        refine Here.seg s21 sg (fun _ _ h => ExR.normal_only h) (by unfold BIG; simp) (by unfold BIG; simp) hs fun a' w' hs' => .inl ⟨rfl, k + 1, by omega, by omega, ?_⟩
        rw [e]; exact hs'
      | cons y ys =>
        rw [hy] at hs e
        have sg := seg_run (m := 1) zerosFlat_here mixed_here (brH_ok _) s21 (fun f => n_skip1 (fl xs) (fl (y :: ys)) n c (y :: ys).length (k : Int) f) hp rfl rfl rfl
        refine Here.seg s21 sg (fun _ _ h => ExR.normal_only h) (by unfold BIG; simp) (by unfold BIG; simp) hs fun a' w' hs' => .inl ⟨rfl, k + 1, by omega, by omega, ?_⟩
        rw [e]; exact hs'
    | true =>
      rw [hb, if_pos rfl] at e
      have hp := nP_all hn hlt hb
      have hfx : fltAt (fl xs) (at1 (k : Int)) = xs[k] := by rw [at1_eq]; exact hv
      cases hy : numsT xs k with
      | nil =>
        rw [hy] at hs e
        have sg := seg_run (m := 1) zerosFlat_here mixed_here (brH_ok _) s21 (fun f => n_first (fl xs) n c (k : Int) f)
          (All.append hp (All.append (All.cons (by omega) (All.cons (by omega) (All.cons (by omega) (All.cons (by simp) (All.cons rfl All.nil))))) hw)) rfl rfl rfl
        refine Here.seg s21 sg (fun _ _ h => ExR.normal_only h) (by unfold BIG; simp) (by unfold BIG; simp) hs fun a' w' hs' => .inl ⟨rfl, k + 1, by omega, by omega, ?_⟩
        rw [hfx] at hs'
        rw [e]
        exact Here.move [0, 2] s21 (by unfold BIG; simp) rfl rfl (by show (flatL (fl xs) && (true && true)) = true; rw [fl_flat]; rfl) rfl rfl hs'
      | cons y ys =>
        rw [hy] at hs e hlen
        have hq : (fl (y :: ys)).length = (y :: ys).length := fl_len _
        have sg := seg_run (m := 1) zerosFlat_here mixed_here (brH_ok _) s21 (fun f => n_next (fl xs) (fl (y :: ys)) n c (y :: ys).length (k : Int) f)
          (All.append hp (All.append (All.cons (by simp) (All.cons (by omega) (All.cons (by omega) (All.cons (by omega) (All.cons (by omega) (All.cons (by omega) (All.cons (by simp) (All.cons (by rw [take_whole hq]; exact fl_one _) (All.cons rfl All.nil))))))))) hw)) rfl rfl rfl
        refine Here.seg s21 sg (fun _ _ h => ExR.normal_only h) (by unfold BIG; simp) (by unfold BIG; simp) hs fun a' w' hs' => .inl ⟨rfl, k + 1, by omega, by omega, ?_⟩
        rw [hfx, take_whole hq] at hs'
        have e2 : fl (y :: ys) ++ takeL [Value.float .f64 xs[k]] 0 1 = fl (y :: (ys ++ [xs[k]])) := by
          rw [show y :: (ys ++ [xs[k]]) = (y :: ys) ++ [xs[k]] from rfl, fl_app]
          rfl
        have e3 : (y :: ys).length + 1 = (y :: (ys ++ [xs[k]])).length := by simp
        rw [e2, e3] at hs'
        rw [e]
        exact Here.move [0, 3] s21 (by unfold BIG; simp) rfl rfl (by show (flatL (fl xs) && (flatL (fl (y :: (ys ++ [xs[k]]))) && true)) = true; rw [fl_flat, fl_flat]; rfl) rfl rfl hs'
  · obtain rfl : k = n := by omega
    have hp : All [decide ((k : Int) < (k : Int)) = false] := All.cons (by simp) All.nil
    cases hy : numsT xs k with
    | nil =>
      rw [hy] at hs
      have sg := seg_run (m := 1) zerosFlat_here mixed_here (brH_ok _) s21 (fun f => n_end (fl xs) k c (k : Int) f) hp rfl rfl rfl
      exact Here.seg s21 sg (fun _ _ h => ExR.exit_only h) (by unfold BIG; simp) (by unfold BIG; simp) hs fun a' w' hs' => .inr ⟨rfl, less rfl hs'⟩
    | cons y ys =>
      rw [hy] at hs
      have sg := seg_run (m := 1) zerosFlat_here mixed_here (brH_ok _) s21 (fun f => n_end1 (fl xs) (fl (y :: ys)) k c (y :: ys).length (k : Int) f) hp rfl rfl rfl
      exact Here.seg s21 sg (fun _ _ h => ExR.exit_only h) (by unfold BIG; simp) (by unfold BIG; simp) hs fun a' w' hs' => .inr ⟨rfl, less rfl hs'⟩
end
/-- What 'numbers' gives back. -/
def NumsPost (W : World) (ys : List Nat) (v : Value) (w' : World) : Prop :=
  ((ys = [] ∧ v = nilS) ∨ ∃ a2 c2, v = .slice (some a2) ys.length c2 ∧ Came w' (fl ys) a2 ∧ ys.length ≤ c2 ∧ 0 < ys.length) ∧ Below W.heap.size W w'
theorem numbers_calls {W : World} {xs : List Nat} {a : Addr} {n c : Nat} (hn : n ≤ xs.length) (hs8 : n * 8 ≤ 140737488355328) (ca : Came W (fl xs) a) :
    Calls Tryz.prog 38 #[.slice (some a) n c] W fun en w' => ∃ v, en = .returned v ∧ NumsPost W (numsT xs n) v w' := by
  refine here_calls_v (m := 1) (N := 21) (e := 37) (rows := [(fl xs, a)]) (args := [pSl n c]) (live := [(0, pSl n c)]) f38_at f38_body rfl (fun r hr => by obtain rfl := List.mem_singleton.1 hr; exact ca)
    (.cons (came_slice (id := 0) (r := (fl xs, a)) rfl ca.spot n c) .nil) (by kernel_rfl) s21 ⟨rfl, trivial⟩ _ fun ac hs => ?_
  have sp := seg_split (m := 1) zerosFlat_here mixed_here (brH_ok _) s21 splitN (fun f => n_pre (fl xs) n c f) All.nil rfl rfl rfl
  refine Here.seg (Q := fun _ a1 w1 => Here Tryz.prog 1 W 21 _ _ a1 w1) s21 sp (fun _ _ h => ExR.normal_only h) (by unfold BIG; simp) (by unfold BIG; simp) hs (fun a1 w1 h => h) (fun ex a' w' => (ex = .ret ∨ ex = .normal) ∧ a'.defers = [] ∧ ∃ v, (results Tryz.f38 a'.tmps).run Tryz.prog w' = .ok v w' ∧ NumsPost W (numsT xs n) v w') fun a1 w1 hs1 => ?_
  rw [restN_eq]
  refine wp_seq (wp_seq ?_)
  have si := seg_run (m := 1) zerosFlat_here mixed_here (brH_ok _) s21 (fun f => n_init (fl xs) n c f) All.nil rfl rfl rfl
  refine Here.seg s21 si (fun _ _ h => ExR.normal_only h) (by unfold BIG; simp) (by unfold BIG; simp) hs1 fun a2 w2 hs2 => ?_
  refine Here.loopX (D := Nat) (fun k => n - k) (fun k => k ≤ n) (fun a' w' => Here Tryz.prog 1 W 21 [(3, outV (numsT xs n))] (objV xs (numsT xs n)) a' w') (live := fun k => liveN n c (outV (numsT xs k)) (k : Int)) (obj := fun k => objV xs (numsT xs k))
    (fun k a w hk hh => round_n hn hs8 k hk hh) 0 a2 w2 _ (Nat.zero_le _) (by
      have e : numsT xs 0 = [] := by unfold numsT; simp
      simp only [e]
      exact hs2) fun a3 w3 hs3 => ?_
  cases hy : numsT xs n with
  | nil =>
    rw [hy] at hs3
    have st := seg_run (m := 1) zerosFlat_here mixed_here (brH_ok _) s21 (fun f => n_tail (fl xs) f) All.nil rfl rfl rfl
    refine Here.seg s21 st (fun _ _ h => ExR.ret_only h) (by unfold BIG; simp) (by unfold BIG; simp) hs3 fun a4 w4 hs4 => ⟨.inl rfl, hs4.df, _, results_one (s := 2) (by kernel_rfl) _ _, .inl ⟨rfl, hs4.nil_at (s := 2) (by simp)⟩, hs4.below⟩
  | cons y ys =>
    rw [hy] at hs3
    have st := seg_run (m := 1) zerosFlat_here mixed_here (brH_ok _) s21 (fun f => n_tail1 (fl xs) (fl (y :: ys)) (y :: ys).length f) All.nil rfl rfl rfl
    refine Here.seg s21 st (fun _ _ h => ExR.ret_only h) (by unfold BIG; simp) (by unfold BIG; simp) hs3 fun a4 w4 hs4 => ⟨.inl rfl, hs4.df, _, results_one (s := 2) (by kernel_rfl) _ _, .inr ?_, hs4.below⟩
    obtain ⟨a5, c5, h1, h2, h3⟩ := hs4.row_at (s := 2) (j := 1) (k := (y :: ys).length) (c := (y :: ys).length) (r := fl (y :: ys)) (by simp) (by simp) (by simp) rfl (fl_flat _) (fl_one _)
    exact ⟨a5, c5, h1, h2, h3, by simp⟩
end Go.Proofs.YthidmnghdoipiaaGreatDoor
