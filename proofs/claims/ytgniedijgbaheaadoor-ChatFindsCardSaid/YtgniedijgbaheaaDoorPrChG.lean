/- Chat: a text is found as soon as it has come: the whole call. -/
import Derived.Test.YtgniedijgbaheaaDoorPrChF
namespace Go.Proofs.YtgniedijgbaheaaDoor
open Go Go.RowKit Go.Ev
abbrev endCm (m : Nat) (W : World) : WPost := fun ex a' w' => (ex = .ret ∨ ex = .normal) ∧ ∃ live' obj', (6, .bool true) ∈ live' ∧ Here Tryd.prog m W 143 live' obj' a' w'
section
variable {P : Program}
theorem here_pad {m N : Nat} {W : World} {live : List (Nat × Value)} {a : Act} {w : World} (hs : Here P m W N live [] a w) : Here P m W N live [none] a w := by
  obtain ⟨κ, G, f, s⟩ := hs
  refine ⟨κ, G, f, s.rel, s.fr, s.n, s.ds, s.df, s.holds, fun id hid => ?_, fun id hid hid' => s.free id (Nat.zero_le _) hid', s.own, s.below⟩
  have h0 : id = 0 := by simp at hid; exact hid
  subst h0
  exact (s.free 0 (Nat.le_refl _) (by unfold BIG; omega)).1
end
theorem all_pre {s : ByteArray} {x : Int} {w : Bool} (hs : s.size ≤ 1024) (x0 : 0 ≤ x) (x1 : x ≤ 549755813888) (hw : (!isEmpty s) = w) : All (preP s x w) := by
  unfold preP
  exact All.cons (by simp; omega) (All.cons (by simp; omega) (All.cons (by simp; omega) (All.cons (by simp; omega) (All.cons (by simp; omega) (All.cons (by simp; omega) (All.cons hw (All.cons (by rw [← hw, Bool.not_not]) All.nil)))))))
theorem not_empty {s : ByteArray} (h : isEmpty s = false) : 0 < s.size := by
  rcases Nat.eq_zero_or_pos s.size with h0 | h0
  · have he : s = ByteArray.empty := bytes_ext (by
      have : s.data.size = 0 := h0
      exact Array.eq_empty_of_size_eq_zero this)
    rw [he] at h
    unfold isEmpty at h
    simp at h
  · exact h0
section
variable {m : Nat} {W : World} {o0 : Option AObj} {s : ByteArray} {v1 : Value} {x : Int}
theorem lowbits (hm : m ≤ 1) {z : Nat} (h0 : Nat.beq (Nat.land z (2 ^ 0 - 1)) 0 = true) (h1 : Nat.beq (Nat.land z (2 ^ 1 - 1)) 0 = true) : Nat.beq (Nat.land z (2 ^ m - 1)) 0 = true := by
  rcases (by omega : m = 0 ∨ m = 1) with rfl | rfl
  · exact h0
  · exact h1
/-- Behind the loop. -/
theorem tail_wp (hm : m ≤ 1) (x0 : 0 ≤ x) (x1 : x ≤ 549755813888) {a : Act} {w : World} (h : Left m W o0 s v1 x a w) : tailC.wp Tryd.prog (endCm m W) a w := by
  obtain ⟨met, g, i, rc, hf, hs⟩ := h
  rcases hf with ⟨rfl, at_, fr, cm, lf, rfl⟩ | ⟨rfl, fr, cm, lf, rfl⟩
  · have st := seg_run (m := m) zerosFlat_here mixed_here (chH_ok _) s143 (fun f => c_met o0 v1 s g x i at_ fr cm lf f) All.nil rfl rfl (lowbits hm rfl rfl)
    exact Here.seg s143 st (fun _ _ h => ExR.ret_only h) (by unfold BIG; simp) (by unfold BIG; simp) hs fun a4 w4 hs4 => ⟨.inl rfl, _, _, by simp, hs4⟩
  · have sp := seg_split (m := m) zerosFlat_here mixed_here (chH_ok _) s143 splitT (fun f => c_tail1 o0 v1 s g x i fr cm lf f)
      (All.cons (wrap_at (by omega) (by omega)) (All.cons (decide_eq_false (by omega)) (All.cons (by simp; omega) (All.cons ((wrap_at (by omega) (by omega)).trans (by omega)) All.nil)))) rfl rfl (lowbits hm rfl rfl)
    refine Here.seg (Q := fun _ a1 w1 => Here Tryd.prog m W 143 _ _ a1 w1) s143 sp (fun _ _ h => ExR.normal_only h) (by unfold BIG; simp) (by unfold BIG; simp) hs (fun a1 w1 h => h) (endCm m W) fun a1 w1 hs1 => ?_
    have st := seg_run (m := m) zerosFlat_here mixed_here (chH_ok _) s143 (fun f => c_tail2 o0 s x fr cm lf f)
      (All.cons (wrap_at (by omega) (by omega)) (All.cons (decide_eq_false (by omega)) (All.cons (by simp; omega) (All.cons ((wrap_at (by omega) (by omega)).trans (by omega)) All.nil)))) rfl rfl (lowbits hm rfl rfl)
    exact Here.seg s143 st (fun _ _ h => ExR.ret_only h) (by unfold BIG; simp) (by unfold BIG; simp) hs1 fun a4 w4 hs4 => ⟨.inl rfl, _, _, by simp, hs4⟩
/-- Before the loop, and through it by what is known of the loop. -/
theorem body_wp (hm : m ≤ 1) (x0 : 0 ≤ x) (x1 : x ≤ 549755813888) (hsz : s.size ≤ 1024) (ho : ∀ ρ, ObjOk ρ o0 o0) (hv : ∀ l, mvV (0 :: l) v1 = some v1)
    (hloop : ∀ a w (met : Bool), (met = false → 0 < s.size) → Here Tryd.prog m W 143 (liveV s v1 x met ByteArray.empty 0) [o0, runO (bif met then runC 1 false s x x 1 nilS 0 nilS else runC 0 true s x x 0 nilS 0 nilS), lO s] a w →
      ∀ Q : WPost, (∀ a' w', Left m W o0 s v1 x a' w' → Q .normal a' w') → (Code.block 0 (.loop loopC)).wp Tryd.prog Q a w)
    {a : Act} {w : World} (hs : Here Tryd.prog m W 143 [(0, .string s), (1, v1), (2, .int .i64 x)] [o0] a w) : bodyC.wp Tryd.prog (endCm m W) a w := by
  have key : ∀ (met : Bool) (a1 : Act) (w1 : World), (met = false → 0 < s.size) → Here Tryd.prog m W 143 [(0, .string s), (1, v1), (2, .int .i64 x), (8, .pointer (some ⟨5, 0, none⟩)), (10, .bool met), (11, .string ByteArray.empty)]
      (preObj o0 s (atEight (bif met then runC 1 false s x x 1 nilS 0 nilS else runC 0 true s x x 0 nilS 0 nilS))) a1 w1 → restC.wp Tryd.prog (endCm m W) a1 w1 := by
    intro met a1 w1 hp hs1
    have hs2 : Here Tryd.prog m W 143 [(0, .string s), (1, v1), (2, .int .i64 x), (8, rP), (10, .bool met), (11, .string ByteArray.empty)] [o0, runO (bif met then runC 1 false s x x 1 nilS 0 nilS else runC 0 true s x x 0 nilS 0 nilS), lO s] a1 w1 := by
      refine Here.move2 [0, 5, 8] s143 (by unfold BIG; simp) (by rcases (by omega : m = 0 ∨ m = 1) with rfl | rfl <;> rfl) ⟨ho _, .inr (by cases met <;> rfl), .inl ⟨rfl, rfl⟩, trivial⟩ ?_ rfl hs1
      simp only [mvL, hv]
      rfl
    rw [restC_eq]
    refine wp_seq (wp_seq ?_)
    have si := seg_run (m := m) zerosFlat_here mixed_here (chH_ok _) s143 (fun f => c_init o0 v1 (bif met then runC 1 false s x x 1 nilS 0 nilS else runC 0 true s x x 0 nilS 0 nilS) s ByteArray.empty x met f) All.nil rfl rfl (lowbits hm rfl rfl)
    refine Here.seg s143 si (fun _ _ h => ExR.normal_only h) (by unfold BIG; simp) (by unfold BIG; simp) hs2 fun a2 w2 hs3 => ?_
    exact hloop a2 w2 met hp hs3 _ fun a3 w3 hx => tail_wp hm x0 x1 hx
  cases he : isEmpty s with
  | false =>
    have sp := seg_split (m := m) zerosFlat_here mixed_here (chH_ok _) s143 splitC (fun f => c_preT o0 v1 s x f) (all_pre hsz x0 x1 (by rw [he]; rfl)) rfl rfl (lowbits hm rfl rfl)
    exact Here.seg (Q := fun _ a1 w1 => Here Tryd.prog m W 143 _ _ a1 w1) s143 sp (fun _ _ h => ExR.normal_only h) (by unfold BIG; simp) (by unfold BIG; simp [preObj]) hs (fun a1 w1 h => h) (endCm m W) fun a1 w1 hs1 => key false a1 w1 (fun _ => not_empty he) hs1
  | true =>
    have sp := seg_split (m := m) zerosFlat_here mixed_here (chH_ok _) s143 splitC (fun f => c_preF o0 v1 s x f) (all_pre hsz x0 x1 (by rw [he]; rfl)) rfl rfl (lowbits hm rfl rfl)
    exact Here.seg (Q := fun _ a1 w1 => Here Tryd.prog m W 143 _ _ a1 w1) s143 sp (fun _ _ h => ExR.normal_only h) (by unfold BIG; simp) (by unfold BIG; simp [preObj]) hs (fun a1 w1 h => h) (endCm m W) fun a1 w1 hs1 => key true a1 w1 (fun h => by cases h) hs1
end
theorem finds_call {W : World} {cs : List Value} {ad : Addr} {n c : Nat} {s : ByteArray} {x : Int} (hU : cs.all isU8 = true) (hc : n ≤ c) (hl : c ≤ cs.length) (x0 : 0 ≤ x) (x1 : x ≤ 549755813888) (hsz : s.size ≤ 1024) (ca : Came W cs ad) :
    Calls Tryd.prog 3 #[.string s, .slice (some ad) n c, .int .i64 x] W fun e W' => e = .returned (.bool true) ∧ Below W.heap.size W W' := by
  refine here_calls (m := 1) (N := 143) (s := 6) (e := 5) (t := true) (rows := [(cs, ad)]) (args := [.string s, pSl n c, .int .i64 x]) (live := [(0, .string s), (1, pSl n c), (2, .int .i64 x)]) f3_at f3_body (by kernel_rfl) rfl (fun r hr => by obtain rfl := List.mem_singleton.1 hr; exact ca)
    (.cons (VR.flat _ rfl) (.cons (came_slice (id := 0) (r := (cs, ad)) rfl ca.spot n c) (VL.flat _ rfl))) (by kernel_rfl) s143 ⟨rfl, rfl, rfl, trivial⟩ fun ac hs => ?_
  refine body_wp (m := 1) (o0 := viewO cs) (Nat.le_refl 1) x0 x1 hsz (fun ρ => .inl ⟨rfl, flat_u8 hU⟩) (fun l => rfl) (fun a w met hp hh Q hq => ?_) hs
  cases met with
  | true => exact Here.loopX (fun st => n - St.k st) (okS s n) (Left 1 W (viewO cs) s (pSl n c) x) (live := liveS cs s n c x) (obj := objS cs s x) (fun st a w hI hs => round_all hU hc hl x1 st hI hs) (.b 0 1 0 nilS) a w Q ⟨by omega, by omega⟩ hh hq
  | false => exact Here.loopX (fun st => n - St.k st) (okS s n) (Left 1 W (viewO cs) s (pSl n c) x) (live := liveS cs s n c x) (obj := objS cs s x) (fun st a w hI hs => round_all hU hc hl x1 st hI hs) .a0 a w Q (hp rfl) hh hq
theorem finds_nil {W : World} {s : ByteArray} {x : Int} (x0 : 0 ≤ x) (x1 : x ≤ 549755813888) (hsz : s.size ≤ 1024) :
    Calls Tryd.prog 3 #[.string s, .slice none 0 0, .int .i64 x] W fun e W' => e = .returned (.bool true) ∧ Below W.heap.size W W' := by
  refine here_calls (m := 0) (N := 143) (s := 6) (e := 5) (t := true) (rows := []) (args := [.string s, nilS, .int .i64 x]) (live := [(0, .string s), (1, nilS), (2, .int .i64 x)]) f3_at f3_body (by kernel_rfl) rfl (fun r hr => by cases hr)
    (.cons (VR.flat _ rfl) (.cons (.sliceNil 0 0) (VL.flat _ rfl))) (by kernel_rfl) s143 ⟨rfl, rfl, rfl, trivial⟩ fun ac hs => ?_
  refine body_wp (m := 0) (o0 := none) (Nat.zero_le 1) x0 x1 hsz (fun ρ => .inr rfl) (fun l => rfl) (fun a w met hp hh Q hq => ?_) (here_pad hs)
  refine Here.loopX (D := Unit) (fun _ => 0) (fun _ => True) (Left 0 W none s nilS x) (live := fun _ => liveV s nilS x met ByteArray.empty 0) (obj := fun _ => [none, runO (bif met then runC 1 false s x x 1 nilS 0 nilS else runC 0 true s x x 0 nilS 0 nilS), lO s]) (fun _ a w _ hs => ?_) () a w Q trivial hh hq
  have sg := seg_run (m := 0) zerosFlat_here mixed_here (chH_ok _) s143 (fun f => c_endN none (bif met then runC 1 false s x x 1 nilS 0 nilS else runC 0 true s x x 0 nilS 0 nilS) s ByteArray.empty x met f) All.nil rfl rfl rfl
  refine Here.seg s143 sg (fun _ _ h => ExR.exit_only h) (by unfold BIG; simp) (by unfold BIG; simp) hs fun a' w' hs' => .inr ⟨rfl, met, _, _, _, ?_, hs'⟩
  cases met with
  | true => exact .inl ⟨rfl, _, _, _, _, rfl⟩
  | false => exact .inr ⟨rfl, _, _, _, rfl⟩
end Go.Proofs.YtgniedijgbaheaaDoor
