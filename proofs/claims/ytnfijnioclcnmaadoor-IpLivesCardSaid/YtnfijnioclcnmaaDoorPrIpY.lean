/- IP: a packet with one less to live: the law's code, from its pieces. -/
import Derived.Test.YtnfijnioclcnmaaDoorPrIpX
namespace Go.Proofs.YtnfijnioclcnmaaDoor
open Go Go.RowKit Go.Ev

abbrev liveL (q : Nat) (t : Int) : List (Nat × Value) := [(3, bxP 1), (7, pK 2 q q), (8, .int .i64 t)]
abbrev objL (cs r : List Value) (p : PF) : List (Option AObj) := [viewO cs, boxO p.cells, rowO r]
abbrev endL (W : World) : WPost := fun ex a' w' => (ex = .ret ∨ ex = .normal) ∧ ∃ live' obj', (2, .bool true) ∈ live' ∧ Here Tryd.prog 1 W 82 live' obj' a' w'
theorem s82 : small 82 = true := rfl
theorem flat_cells (p : PF) : flatL p.cells = true := rfl
theorem lives_move {W : World} {cs r d : List Value} {p : PF} {q l : Nat} {t : Int} {a : Act} {w : World} (hcs : flatL cs = true) (hd : flatL d = true)
    (hs : Here Tryd.prog 1 W 82 [(3, bxP 1), (7, pK 5 l l), (8, .int .i64 t)] (goObj cs r d p q l) a w) : Here Tryd.prog 1 W 82 (liveL l t) (objL cs d p) a w := by
  refine Here.move [0, 1, 5] s82 (by unfold BIG; simp) rfl rfl ?_ rfl rfl hs
  show (flatL cs && (flatL p.cells && (flatL d && true))) = true
  rw [hcs, hd, flat_cells]; rfl
theorem lives_round {W : World} {cs r : List Value} {p : PF} {q : Nat} {t : Int} {a : Act} {w : World} (hcs : flatL cs = true) (hk : Pk r q p t) (hs : Here Tryd.prog 1 W 82 (liveL q t) (objL cs r p) a w) :
    loop6L.wp Tryd.prog (fun e a' w' => (e = .normal ∧ ∃ d' : List Value × Nat × Int, Pk d'.1 d'.2.1 p d'.2.2 ∧ d'.2.2.toNat < t.toNat ∧ Here Tryd.prog 1 W 82 (liveL d'.2.1 d'.2.2) (objL cs d'.1 p) a' w') ∨
      (e = .exit 0 ∧ ∃ r q t, Pk r q p t ∧ t < 2 ∧ Here Tryd.prog 1 W 82 (liveL q t) (objL cs r p) a' w')) a w := by
  by_cases ht : 2 ≤ t
  · rcases parse_ver hk.err with hv | hv
    · obtain ⟨_, hp, hk'⟩ := go4_all hk ht hv
      have sg := seg_run (m := 1) zerosFlat_here mixed_here (liveH_ok _) s82 (fun f => l_go4 cs r p q t (t - 1) f) hp rfl rfl rfl
      exact Here.seg s82 sg (fun _ _ h => ExR.normal_only h) (by unfold BIG; simp) (by unfold BIG; simp [goObj]) hs fun a' w' hs' => .inl ⟨rfl, (row4 r q (t - 1), lenT r q, t - 1), hk', by show (t - 1).toNat < t.toNat; omega, lives_move hcs hk'.bytes.flat hs'⟩
    · obtain ⟨_, hp, hk'⟩ := go6_all hk ht hv
      have sg := seg_run (m := 1) zerosFlat_here mixed_here (liveH_ok _) s82 (fun f => l_go6 cs r p q t (t - 1) f) hp rfl rfl rfl
      exact Here.seg s82 sg (fun _ _ h => ExR.normal_only h) (by unfold BIG; simp) (by unfold BIG; simp [goObj]) hs fun a' w' hs' => .inl ⟨rfl, (row6 r q (t - 1), lenT r q, t - 1), hk', by show (t - 1).toNat < t.toNat; omega, lives_move hcs hk'.bytes.flat hs'⟩
  · have sg := seg_run (m := 1) zerosFlat_here mixed_here (liveH_ok _) s82 (fun f => l_done cs r p q t f) (All.cons (by simp; omega) All.nil) rfl rfl rfl
    exact Here.seg s82 sg (fun _ _ h => ExR.exit_only h) (by unfold BIG; simp) (by unfold BIG; simp) hs fun a' w' hs' => .inr ⟨rfl, r, q, t, hk, by omega, hs'⟩
theorem pk_start {cs : List Value} {n : Nat} (hb : Bytes cs 0 n) (he : (parseF cs n).err = 0) : Pk (takeL cs 0 n) n (parseF cs n) (parseF cs n).ttl := by
  obtain ⟨L, _, _, hLn, hcut⟩ := parse_cut hb he
  obtain ⟨q1, _, q3⟩ := hcut (takeL cs 0 n) n hLn fun i hi => byteAt_congr (nth_take (by omega))
  obtain ⟨c1, c2⟩ := cells_ttl q3
  exact ⟨take_bytes hb (Nat.le_refl n), q1, c1, c2⟩
theorem lives_call {W : World} {cs : List Value} {a : Addr} {n c : Nat} (hb : Bytes cs 0 n) (hc : n ≤ c) (he : (parseF cs n).err = 0) (ca : Came W cs a) :
    Calls Tryd.prog 6 #[.slice (some a) n c] W fun e W' => e = .returned (.bool true) ∧ Below W.heap.size W W' := by
  have hl := bytes_len hb
  have hn := pack_pos he
  refine here_calls (m := 1) (N := 82) (s := 2) (e := 5) (t := true) (rows := [(cs, a)]) (args := [pSl n c]) (live := [(0, pSl n c)]) f6_at f6_body (by kernel_rfl) rfl (fun r hr => by obtain rfl := List.mem_singleton.1 hr; exact ca)
    (.cons (came_slice (id := 0) (r := (cs, a)) rfl ca.spot n c) .nil) (by kernel_rfl) s82 ⟨rfl, trivial⟩ fun ac hs => ?_
  have sp := seg_split (m := 1) zerosFlat_here mixed_here (liveH_ok _) s82 split6L (fun f => l_pre cs n c f) (All.append (All.cons rfl (All.cons rfl (All.cons hc (All.cons hb All.nil)))) (All.cons (by rw [he]; rfl) (All.cons hn (All.cons hb.small (All.cons (by omega) (All.cons (all_one (all_u8 hb (Nat.le_refl n))) All.nil)))))) rfl rfl rfl
  refine Here.seg (Q := fun _ a1 w1 => Here Tryd.prog 1 W 82 _ _ a1 w1) s82 sp (fun _ _ h => ExR.normal_only h) (by unfold BIG; simp) (by unfold BIG; simp) hs (fun a1 w1 h => h) (endL W) fun a1 w1 hs1 => ?_
  rw [rest6L_eq]
  refine wp_seq (wp_seq ?_)
  have si := seg_run (m := 1) zerosFlat_here mixed_here (liveH_ok _) s82 (fun f => l_init cs (takeL cs 0 n) (parseF cs n) n f) All.nil rfl rfl rfl
  refine Here.seg s82 si (fun _ _ h => ExR.normal_only h) (by unfold BIG; simp) (by unfold BIG; simp) hs1 fun a2 w2 hs2 => ?_
  refine Here.loopX (D := List Value × Nat × Int) (live := fun d => liveL d.2.1 d.2.2) (obj := fun d => objL cs d.1 (parseF cs n)) (fun d => d.2.2.toNat) (fun d => Pk d.1 d.2.1 (parseF cs n) d.2.2)
    (fun a' w' => ∃ r q t, Pk r q (parseF cs n) t ∧ t < 2 ∧ Here Tryd.prog 1 W 82 (liveL q t) (objL cs r (parseF cs n)) a' w') (fun d a w hk hh => lives_round hb.flat hk hh) (takeL cs 0 n, n, (parseF cs n).ttl) a2 w2 _ (pk_start hb he) hs2 fun a3 w3 hx => ?_
  obtain ⟨r, q, t, hk, ht, hs3⟩ := hx
  have st := seg_run (m := 1) zerosFlat_here mixed_here (liveH_ok _) s82 (fun f => l_tail cs r (parseF cs n) q t f) (All.append (All.cons rfl (All.cons rfl (All.cons (Nat.le_refl q) (All.cons hk.bytes All.nil)))) (All.cons (by rw [hk.err]; rfl) (All.cons (by rw [hk.ttl]; simpa using ht) All.nil))) rfl rfl rfl
  exact Here.seg s82 st (fun _ _ h => ExR.ret_only h) (by unfold BIG; simp) (by unfold BIG; simp) hs3 fun a4 w4 hs4 => ⟨.inl rfl, _, _, by simp, hs4⟩
end Go.Proofs.YtnfijnioclcnmaaDoor
