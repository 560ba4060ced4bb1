/- Meter: whatever goes over a link: the whole call. -/
import Derived.Test.YthidmnghdoipiaaGreatDoorPrMpD
namespace Go.Proofs.YthidmnghdoipiaaGreatDoor
open Go Go.RowKit Go.Ev
theorem s78 : small 78 = true := rfl
abbrev endM (m : Nat) (W : World) : WPost := fun ex a' w' => (ex = .ret ∨ ex = .normal) ∧ ∃ live' obj', (2, .bool true) ∈ live' ∧ Here Tryz.prog m W 78 live' obj' a' w'
section
variable {P : Program}
theorem here_pad {m N : Nat} {W : World} {live : List (Nat × Value)} {a : Act} {w : World} (hs : Here P m W N live [] a w) : Here P m W N live [none] a w := by
  obtain ⟨κ, G, f, s⟩ := hs
  refine ⟨κ, G, f, s.rel, s.fr, s.n, s.ds, s.df, s.holds, fun id hid => ?_, fun id hid hid' => s.free id (Nat.zero_le _) hid', s.own, s.below⟩
  have h0 : id = 0 := by simp at hid; exact hid
  subst h0
  exact (s.free 0 (Nat.le_refl _) (by unfold BIG; omega)).1
end
/-- What stands in the row of acts. -/
def Ops (cs : List Value) (n : Nat) : Prop := ∀ k, k < n → ∃ K o x y z, at5 (k : Int) + 5 ≤ cs.length ∧ takeL cs (at5 (k : Int)) 5 = opL K o x y z
section
variable {W : World} {cs : List Value} {n c : Nat}
theorem round_m (hcs : flatL cs = true) (hn : n ≤ 140737488355328) (hops : Ops cs n) (d : Nat × Int × Wy × Wy) {a : Act} {w : World} (hI : d.1 ≤ n ∧ Ok d.2.1 d.2.2.1 d.2.2.2)
    (hs : Here Tryz.prog 1 W 78 (liveM n c (d.1 : Int)) (objM cs d.2.1 d.2.2.1 d.2.2.2) a w) :
    loopM.wp Tryz.prog (fun e a' w' => (e = .normal ∧ ∃ d' : Nat × Int × Wy × Wy, (d'.1 ≤ n ∧ Ok d'.2.1 d'.2.2.1 d'.2.2.2) ∧ n - d'.1 < n - d.1 ∧ Here Tryz.prog 1 W 78 (liveM n c (d'.1 : Int)) (objM cs d'.2.1 d'.2.2.1 d'.2.2.2) a' w') ∨
      (e = .exit 0 ∧ ∃ live r q, Here Tryz.prog 1 W 78 live [viewO cs, mO r, rO q] a' w')) a w := by
  obtain ⟨k, t, A, B⟩ := d
  obtain ⟨hk, hok⟩ := hI
  rw [loopM_eq]
  by_cases hlt : k < n
  · obtain ⟨K, o, x, y, z, h5, hrow⟩ := hops k hlt
    have hg : All (goP cs n (k : Int) K o x y z) := All.cons ⟨by omega, by omega⟩ (All.cons h5 (All.cons hrow All.nil))
    have st := seg_run (m := 1) zerosFlat_here mixed_here (mpH_ok _) s78 (fun f => m_go (viewO cs) n c (k : Int) (mC t A B) (rC t A B) f) (All.cons (by simp; omega) All.nil) rfl rfl rfl
    refine wp_seq ?_
    refine Here.seg s78 st (fun _ _ h => ExR.normal_only h) (by unfold BIG; simp) (by unfold BIG; simp) hs fun a1 w1 hs1 => ?_
    refine wp_seq (wp_block ?_)
    refine act_all hcs hok hg hs1 _ fun t' A' B' a2 w2 hI' hs2 => ?_
    have ss := seg_runG (m := 1) zerosFlat_here mixed_here (mpH_ok _) s78 (fun f => m_same cs n c (k : Int) t' A' B' A' B' f) (All.append (same_all t' B') (same_all t' A')) rfl rfl
    refine Here.segK s78 ss (fun _ _ h => ExR.normal_only h) (by unfold BIG; simp) (by simp) (by unfold BIG; simp) rfl (flat_objs hcs t' A' B' A' B') rfl rfl hs2 fun a3 w3 hs3 => ?_
    have sn := seg_run (m := 1) zerosFlat_here mixed_here (mpH_ok _) s78 (fun f => m_next (viewO cs) n c (k : Int) (mC t' A' B') (rC t' A' B') f) (All.cons (w_in (by omega) (by omega)) All.nil) rfl rfl rfl
    refine Here.seg s78 sn (fun _ _ h => ExR.normal_only h) (by unfold BIG; simp) (by unfold BIG; simp) hs3 fun a4 w4 hs4 => ?_
    exact .inl ⟨rfl, (k + 1, t', A', B'), ⟨by show k + 1 ≤ n; omega, hI'⟩, by show n - (k + 1) < n - k; omega, hs4⟩
  · have st := seg_run (m := 1) zerosFlat_here mixed_here (mpH_ok _) s78 (fun f => m_end (viewO cs) n c (k : Int) (mC t A B) (rC t A B) f) (All.cons (by simp; omega) All.nil) rfl rfl rfl
    refine wp_seq ?_
    exact Here.seg s78 st (fun _ _ h => ExR.exit_only h) (by unfold BIG; simp) (by unfold BIG; simp) hs fun a1 w1 hs1 => .inr ⟨rfl, _, _, _, hs1⟩
end
theorem ok0 : Ok 0 w0 w0 := by
  have h : WyOk w0 := by constructor <;> decide
  exact ⟨by omega, by decide, h, h⟩
section
variable {m : Nat} {W : World} {o0 : Option AObj} {v0 : Value}
theorem lowbits (hm : m ≤ 1) {z : Nat} (h0 : Nat.beq (Nat.land z (2 ^ 0 - 1)) 0 = true) (h1 : Nat.beq (Nat.land z (2 ^ 1 - 1)) 0 = true) : Nat.beq (Nat.land z (2 ^ m - 1)) 0 = true := by
  rcases (by omega : m = 0 ∨ m = 1) with rfl | rfl
  · exact h0
  · exact h1
theorem body_wp (hm : m ≤ 1)
    (hloop : ∀ a w, Here Tryz.prog m W 78 [(0, v0), (3, pK 1), (4, pK 2), (5, .int .i64 0)] [o0, mO (mC 0 w0 w0), rO (rC 0 w0 w0)] a w →
      ∀ Q : WPost, (∀ a' w' live r q, Here Tryz.prog m W 78 live [o0, mO r, rO q] a' w' → Q .normal a' w') → (Code.block 0 (.loop loopM)).wp Tryz.prog Q a w)
    {a : Act} {w : World} (hs : Here Tryz.prog m W 78 [(0, v0)] [o0] a w) : bodyM.wp Tryz.prog (endM m W) a w := by
  have sp := seg_split (m := m) zerosFlat_here mixed_here (mpH_ok _) s78 splitM (fun f => m_pre o0 v0 f) All.nil rfl rfl (lowbits hm rfl rfl)
  refine Here.seg (Q := fun _ a1 w1 => Here Tryz.prog m W 78 _ _ a1 w1) s78 sp (fun _ _ h => ExR.normal_only h) (by unfold BIG; simp) (by unfold BIG; simp) hs (fun a1 w1 h => h) (endM m W) fun a1 w1 hs1 => ?_
  rw [restM_eq]
  refine wp_seq (wp_seq ?_)
  have si := seg_run (m := m) zerosFlat_here mixed_here (mpH_ok _) s78 (fun f => m_init o0 v0 (mC 0 w0 w0) (rC 0 w0 w0) f) All.nil rfl rfl (lowbits hm rfl rfl)
  refine Here.seg s78 si (fun _ _ h => ExR.normal_only h) (by unfold BIG; simp) (by unfold BIG; simp) hs1 fun a2 w2 hs2 => ?_
  refine hloop a2 w2 hs2 _ fun a3 w3 live r q hs3 => ?_
  have hs4 : Here Tryz.prog m W 78 [] [o0, mO r, rO q] a3 w3 := by
    obtain ⟨κ, G, f, s⟩ := hs3
    exact ⟨κ, G, f, s.rel, s.fr, s.n, s.ds, s.df, trivial, s.full, s.free, s.own, s.below⟩
  have st := seg_run (m := m) zerosFlat_here mixed_here (mpH_ok _) s78 (fun f => m_tail o0 r q f) All.nil rfl rfl (lowbits hm rfl rfl)
  exact Here.seg s78 st (fun _ _ h => ExR.ret_only h) (by unfold BIG; simp) (by unfold BIG; simp) hs4 fun a4 w4 hs5 => ⟨.inl rfl, _, _, by simp, hs5⟩
end
theorem plays_call {W : World} {cs : List Value} {ad : Addr} {n c : Nat} (hcs : flatL cs = true) (hn : n ≤ 140737488355328) (hops : Ops cs n) (ca : Came W cs ad) :
    Calls Tryz.prog 3 #[.slice (some ad) n c] W fun e W' => e = .returned (.bool true) ∧ Below W.heap.size W W' := by
  refine here_calls (m := 1) (N := 78) (s := 2) (e := 28) (t := true) (rows := [(cs, ad)]) (args := [pSl n c]) (live := [(0, pSl n c)]) f3_at f3_body (by kernel_rfl) rfl (fun r hr => by obtain rfl := List.mem_singleton.1 hr; exact ca)
    (.cons (came_slice (id := 0) (r := (cs, ad)) rfl ca.spot n c) .nil) (by kernel_rfl) s78 ⟨rfl, trivial⟩ fun ac hs => ?_
  refine body_wp (m := 1) (o0 := viewO cs) (v0 := pSl n c) (Nat.le_refl 1) (fun a w hh Q hq => ?_) hs
  exact Here.loopX (D := Nat × Int × Wy × Wy) (fun d => n - d.1) (fun d => d.1 ≤ n ∧ Ok d.2.1 d.2.2.1 d.2.2.2) (fun a' w' => ∃ live r q, Here Tryz.prog 1 W 78 live [viewO cs, mO r, rO q] a' w') (live := fun d => liveM n c (d.1 : Int)) (obj := fun d => objM cs d.2.1 d.2.2.1 d.2.2.2)
    (fun d a w hI hs => round_m hcs hn hops d hI hs) (0, 0, w0, w0) a w Q ⟨Nat.zero_le _, ok0⟩ hh fun a' w' ⟨live, r, q, h⟩ => hq a' w' live r q h
theorem plays_nil {W : World} : Calls Tryz.prog 3 #[.slice none 0 0] W fun e W' => e = .returned (.bool true) ∧ Below W.heap.size W W' := by
  refine here_calls (m := 0) (N := 78) (s := 2) (e := 28) (t := true) (rows := []) (args := [.slice none 0 0]) (live := [(0, .slice none 0 0)]) f3_at f3_body (by kernel_rfl) rfl (fun r hr => by cases hr)
    (.cons (.sliceNil 0 0) .nil) (by kernel_rfl) s78 ⟨rfl, trivial⟩ fun ac hs => ?_
  refine body_wp (m := 0) (o0 := none) (v0 := .slice none 0 0) (Nat.zero_le 1) (fun a w hh Q hq => ?_) (here_pad hs)
  refine Here.loopX (D := Unit) (fun _ => 0) (fun _ => True) (fun a' w' => ∃ live r q, Here Tryz.prog 0 W 78 live [none, mO r, rO q] a' w') (live := fun _ => [(0, .slice none 0 0), (3, pK 1), (4, pK 2), (5, .int .i64 0)]) (obj := fun _ => [none, mO (mC 0 w0 w0), rO (rC 0 w0 w0)]) (fun _ a w _ hs => ?_) () a w Q trivial hh fun a' w' ⟨live, r, q, h⟩ => hq a' w' live r q h
  rw [loopM_eq]
  have st := seg_run (m := 0) zerosFlat_here mixed_here (mpH_ok _) s78 (fun f => m_endN none (mC 0 w0 w0) (rC 0 w0 w0) f) All.nil rfl rfl rfl
  refine wp_seq ?_
  exact Here.seg s78 st (fun _ _ h => ExR.exit_only h) (by unfold BIG; simp) (by unfold BIG; simp) hs fun a1 w1 hs1 => .inr ⟨rfl, _, _, _, hs1⟩
end Go.Proofs.YthidmnghdoipiaaGreatDoor
