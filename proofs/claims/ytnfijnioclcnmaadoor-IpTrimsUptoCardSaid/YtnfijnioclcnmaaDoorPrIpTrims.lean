/- IpTrims where what it reads is of bulk at most 1048576: the law returns true, and each argument reads behind the call as it read before. -/
import Derived.Test.YtnfijnioclcnmaaDoorRows
import Derived.Test.YtnfijnioclcnmaaDoorTie
import Derived.Test.YtnfijnioclcnmaaDoorCards
import Derived.Test.YtnfijnioclcnmaaDoorPrIpL
import Derived.LaidMore
import Derived.OpenShut
import Derived.Lay
import Derived.Laws.Cover2
import Derived.Stop.Joined
import Derived.SevenTiedAt
import Derived.Deep.DeepHandedRow
namespace Go.Proofs.YtnfijnioclcnmaaDoor
open Go Go.ChangeShapes Go.WideShapes Go.ChangeAt Go.WideMaps Go.WideElems Go.RowKit Go.Ev

theorem laidOut_here : laidOutB Tryd.prog = true := by kernel_rfl
theorem own_here : ownKnob Tryd.prog.godebug = Option.none := by kernel_rfl

/-! ### how much comes in -/

theorem bulk_one {H : Type} (d : DataW H) : 1 ≤ Rows.uptoBulk d := by
  cases d with
  | lit l => cases l <;> simp [Rows.uptoBulk]
  | nil => simp [Rows.uptoBulk]
  | ptr d => simp [Rows.uptoBulk]
  | slice elems spare => simp [Rows.uptoBulk]
  | agg parts => simp [Rows.uptoBulk]
  | iface t d => simp [Rows.uptoBulk]
  | map entries => simp [Rows.uptoBulk]
  | held h => simp [Rows.uptoBulk]
theorem bulk_part {H : Type} {d : DataW H} : ∀ {l : List (DataW H)}, d ∈ l → Rows.uptoBulk d ≤ Rows.uptoBulkAll l
  | [], h => by cases h
  | x :: r, h => by
    simp only [Rows.uptoBulkAll]
    rcases List.mem_cons.1 h with rfl | h
    · omega
    · have := bulk_part h; omega
theorem bulk_length {H : Type} : ∀ l : List (DataW H), l.length ≤ Rows.uptoBulkAll l
  | [] => by simp [Rows.uptoBulkAll]
  | x :: r => by have := bulk_one x; have := bulk_length r; simp only [Rows.uptoBulkAll, List.length_cons]; omega
theorem bulk_slice {H : Type} {ls ss : List (DataW H)} {l : List (DataW H)} (hm : DataW.slice ls ss ∈ l) (h : Rows.uptoSmall H l = true) : ls.length + ss.length ≤ 1048576 := by
  have h1 := bulk_part hm
  have h2 := bulk_length ls
  have h3 := bulk_length ss
  simp only [Rows.uptoBulk] at h1
  have h4 : Rows.uptoBulkAll l ≤ 1048576 := by simpa [Rows.uptoSmall] using h
  omega

/-! ### the law's call -/

theorem trims_call {W : World} {v0 v1 : Value} (h0 : v0 = .slice none 0 0 ∨ ∃ a n c zs, v0 = .slice (some a) n c ∧ Came W (u8L zs) a ∧ n ≤ c ∧ zs.length = c ∧ (∀ x ∈ zs, 0 ≤ x ∧ x < 256) ∧ c ≤ 1048576)
    (h1 : v1 = .slice none 0 0 ∨ ∃ a n c zs, v1 = .slice (some a) n c ∧ Came W (u8L zs) a ∧ n ≤ c ∧ zs.length = c ∧ (∀ x ∈ zs, 0 ≤ x ∧ x < 256) ∧ c ≤ 1048576) :
    Calls Tryd.prog 5 #[v0, v1] W fun e W' => e = .returned (.bool true) ∧ Below W.heap.size W W' := by
  have hin1 : ∀ {r : List Value} {a : Addr}, Came W r a → ∀ x ∈ [(r, a)], Came W x.1 x.2 := fun h x hx => by
    obtain rfl := List.mem_singleton.1 hx; exact h
  have hin2 : ∀ {r r' : List Value} {a a' : Addr}, Came W r a → Came W r' a' → ∀ x ∈ [(r, a), (r', a')], Came W x.1 x.2 := fun h h' x hx => by
    rcases List.mem_cons.1 hx with rfl | hx
    · exact h
    · obtain rfl := List.mem_singleton.1 hx; exact h'
  have hnil : ∀ {κ : K}, VR κ (.slice none 0 0) (.slice none 0 0) := .sliceNil 0 0
  rcases h0 with rfl | ⟨a, n, c, zs, rfl, ca, hnc, hz, hby, hc⟩
  · rcases h1 with rfl | ⟨b, m, d, ys, rfl, cb, hmd, hy, hby', hd⟩
    · exact call_came (e := 5) (rows := []) zerosFlat_here mixed_here (trimH_ok _) m_nil All.nil (wf_bare 0) rfl rfl (fun id h => absurd h (Nat.not_lt_zero _)) (fun x hx => by cases hx) (.cons hnil (.cons hnil .nil))
    · exact call_came (e := 5) (rows := [(u8L ys, b)]) zerosFlat_here mixed_here (trimH_ok _) (m_nil1 (u8L ys) m d) All.nil (rowH_wf ..) rfl rfl (fun id h => cameH_get _ _ b id h) (hin1 cb) (.cons hnil (.cons (came_slice (id := 0) (r := (u8L ys, b)) rfl cb.spot m d) .nil))
  · have hlz : (u8L zs).length = c := by unfold u8L; simp [hz]
    have hb : Bytes (u8L zs) 0 n := bytes_u8 hby (by omega) (by omega)
    have hpp : All (parsedP (u8L zs) n c) := All.cons rfl (All.cons rfl (All.cons hnc (All.cons hb All.nil)))
    cases q1 : ((parseF (u8L zs) n).err != 0) with
    | true =>
      rcases h1 with rfl | ⟨b, m, d, ys, rfl, cb, hmd, hy, hby', hd⟩
      · exact call_came (e := 5) (rows := [(u8L zs, a)]) zerosFlat_here mixed_here (trimH_ok _) (m_err (u8L zs) n c) (All.append hpp (All.cons q1 All.nil)) (rowH_wf ..) rfl rfl (fun id h => cameH_get _ _ a id h) (hin1 ca) (.cons (came_slice (id := 0) (r := (u8L zs, a)) rfl ca.spot n c) (.cons hnil .nil))
      · exact call_came (e := 5) (rows := [(u8L zs, a), (u8L ys, b)]) zerosFlat_here mixed_here (trimH_ok _) (m_err1 (u8L zs) (u8L ys) n c m d) (All.append hpp (All.cons q1 All.nil)) (cameH2_wf ..) rfl rfl (fun id h => cameH2_get _ _ _ a b id h) (hin2 ca cb) (.cons (came_slice (id := 0) (r := (u8L zs, a)) rfl ca.spot n c) (.cons (came_slice (id := 1) (r := (u8L ys, b)) rfl cb.spot m d) .nil))
    | false =>
      have he : (parseF (u8L zs) n).err = 0 := by simpa using q1
      have hn := pack_pos he
      have hf := first_all hb hnc he hn
      have hT : Bytes (takeL (u8L zs) 0 n) 0 n := take_bytes hb (Nat.le_refl n)
      have hsm := rest_all hb he hT (Nat.le_refl n) fun i hi => byteAt_congr (nth_take hi)
      rcases h1 with rfl | ⟨b, m, d, ys, rfl, cb, hmd, hy, hby', hd⟩
      · exact call_came (e := 5) (rows := [(u8L zs, a)]) zerosFlat_here mixed_here (trimH_ok _) (m_none (u8L zs) n c) (All.append hf (All.cons (Nat.le_refl n) hsm)) (rowH_wf ..) rfl rfl (fun id h => cameH_get _ _ a id h) (hin1 ca) (.cons (came_slice (id := 0) (r := (u8L zs, a)) rfl ca.spot n c) (.cons hnil .nil))
      · have hly : (u8L ys).length = d := by unfold u8L; simp [hy]
        rcases Nat.eq_zero_or_pos m with rfl | hm
        · exact call_came (e := 5) (rows := [(u8L zs, a), (u8L ys, b)]) zerosFlat_here mixed_here (trimH_ok _) (m_empty (u8L zs) (u8L ys) n c d) (All.append hf (All.cons (Nat.le_refl n) hsm)) (cameH2_wf ..) rfl rfl (fun id h => cameH2_get _ _ _ a b id h) (hin2 ca cb) (.cons (came_slice (id := 0) (r := (u8L zs, a)) rfl ca.spot n c) (.cons (came_slice (id := 1) (r := (u8L ys, b)) rfl cb.spot 0 d) .nil))
        · have hb' : Bytes (u8L ys) 0 m := bytes_u8 hby' (by omega) (by omega)
          obtain ⟨hB, hE⟩ := both_bytes hb hb' (by omega)
          have hlt := bytes_len hT
          have hbp : All (bothP (u8L zs) (u8L ys) n m) := by
            unfold bothP
            exact All.cons hn (All.cons hm (All.cons (by omega) (All.cons (by omega) (All.cons (by omega) (All.cons (by omega) (All.cons (all_one (all_u8 hT (Nat.le_refl n))) (All.cons (all_one (all_u8 hb' (Nat.le_refl m))) All.nil)))))))
          exact call_came (e := 5) (rows := [(u8L zs, a), (u8L ys, b)]) zerosFlat_here mixed_here (trimH_ok _) (m_more (u8L zs) (u8L ys) n c m d) (All.append hf (All.append hbp (rest_all hb he hB (by omega) hE))) (cameH2_wf ..) rfl rfl (fun id h => cameH2_get _ _ _ a b id h) (hin2 ca cb) (.cons (came_slice (id := 0) (r := (u8L zs, a)) rfl ca.spot n c) (.cons (came_slice (id := 1) (r := (u8L ys, b)) rfl cb.spot m d) .nil))

/-! ### the row -/

theorem laid_fits (os : Os) : (World.holding Tryd.prog os ⟨#[], #[], []⟩).layFits Tryd.prog Rows.ipTrimsUptoRow.laid [] = true := by kernel_rfl
theorem laid_ifaces (os : Os) : (World.holding Tryd.prog os ⟨#[], #[], []⟩).layIfaces Tryd.prog Rows.ipTrimsUptoRow.laid (World.laidAll Tryd.prog os Rows.ipTrimsUptoRow.laid) = true := by kernel_rfl
noncomputable abbrev wArgs : Array Value := #[.slice none 0 0, .slice none 0 0]
theorem trims_reads (os : Os) {H : Type} (enc : TypeId × Value → H) : ∃ places, DataW.whole enc Tryd.prog ((World.laidAll Tryd.prog os Rows.ipTrimsUptoRow.laid).forCall (fun _ _ => 0) ⟨#[], wArgs, []⟩).memory Tryd.f5.params.toList Rows.ipTrimsSpec.vars false wArgs.toList 8 = some ([.nil, .nil], [], places) :=
  ⟨[], by kernel_rfl⟩

set_option maxRecDepth 100000 in
theorem ipTrims_lifted (os : Os) (started : os.Started) (H : Type) (enc : TypeId × Value → H) (F : Stop.Interp) :
    ReturnsInHanded {} Tryd.checked os 5 .any ((Rows.OpenSpec.upto Rows.ipTrimsSpec).preRow enc Tryd.prog Tryd.f5 Rows.ipTrimsUptoRow.domain false Rows.ipTrimsUptoRow.laid) (((Rows.OpenSpec.upto Rows.ipTrimsSpec).at F).post enc Tryd.prog Tryd.f5 false true false false) := by
  obtain ⟨places, hx⟩ := trims_reads os enc
  refine returnsInHanded_of_row (C := Tryd.checked) (s := Rows.OpenSpec.upto Rows.ipTrimsSpec) own_here started (by kernel_rfl) Tryd.func5
    (witness_row_at (enc := enc) (C := Tryd.checked) false (World.laidAll Tryd.prog os Rows.ipTrimsUptoRow.laid) wArgs (World.laidAll_os _ _ _) (by kernel_rfl) (by kernel_rfl) (by kernel_rfl)
      (OpenSpec.preRow_of_cond 8 hx (by kernel_rfl) (fun k hk => by cases hk; kernel_rfl) (by kernel_rfl) (laidMet_laidAll _ (laid_fits os) (laid_ifaces os)))) ?_
  intro W base args ds gs before hval0 hW _ hcond _ _ _ _
  have hbulk : Rows.uptoSmall H (ds ++ gs) = true := hcond _ rfl
  have hval : ∀ (j : Nat) t v, Tryd.f5.params[j]? = some t → args[j]? = some v → Value.okWide Tryd.prog W .any base t v := hval0
  have hW' := hW
  obtain ⟨p, q, hA0, hV, rfl, hfz, hnd⟩ := hW
  have hA : DataW.TrodAll enc Tryd.prog W 0 (fun _ => true) true Tryd.f5.params.toList args.toList ds p := hA0
  rw [Tryd.params5] at hA hval
  obtain ⟨v0, vs, d0, ds', p0, q0, hargs, rfl, rfl, h0, r0⟩ := trodAll_cons hA
  obtain ⟨v1, vs', d1, ds'', p1, q1, rfl, rfl, rfl, h1, r1⟩ := trodAll_cons r0
  obtain ⟨rfl, rfl, rfl⟩ := trodAll_nil r1
  obtain rfl : args = #[v0, v1] := by cases args; simp_all
  obtain ⟨rfl, rfl⟩ := trodVars_none hV
  have t5 : Tryd.prog.underlying 5 = some (.int .u8) := by kernel_rfl
  have t22 : Tryd.prog.underlying 22 = some (.slice 5) := by kernel_rfl
  have c5 : Tryd.prog.cellsOf 5 = 1 := by kernel_rfl
  have hc : ∀ {v : Value} {d : DataW H} {ps : List MemPlace}, Value.okWide Tryd.prog W .any base 22 v → DataW.Trod enc Tryd.prog W 0 (fun _ => true) true 22 v d ps → d ∈ [d0, d1] →
      v = .slice none 0 0 ∨ ∃ a n c zs, v = .slice (some a) n c ∧ Came W (u8L zs) a ∧ n ≤ c ∧ zs.length = c ∧ (∀ x ∈ zs, 0 ≤ x ∧ x < 256) ∧ c ≤ 1048576 := by
    intro v d ps hv hd hm
    rcases bytes_came t22 t5 c5 hv hd with h | ⟨a, n, c, zs, rfl, ca, hnc, hz, hby, ls, ss, rfl, hlen⟩
    · exact .inl h
    · refine .inr ⟨a, n, c, zs, rfl, ca, hnc, hz, hby, ?_⟩
      have := bulk_slice (l := [d0, d1] ++ []) (by simpa using hm) hbulk
      omega
  have hcall := trims_call (hc (hval 0 22 v0 rfl rfl) h0 (by simp)) (hc (hval 1 22 v1 rfl rfl) h1 (by simp))
  refine hcall.mono fun e W' hen => ?_
  obtain ⟨rfl, hgr⟩ := hen
  exact ⟨_, rfl, post_true laidOut_here (by kernel_rfl) rfl rfl (show Tryd.prog.underlying 4 = some .bool by kernel_rfl) ⟨rfl, rfl, rfl⟩ hW' hgr⟩

theorem ipTrimsUpto_holds : Rows.IpTrimsUptoSaid :=
  OpenClaim.holds_of_cond 5 Tryd.f5 rfl rfl rfl rfl rfl rfl rfl ⟨rfl, rfl, rfl, rfl, rfl⟩ rfl rfl rfl rfl rfl (by kernel_rfl) Tryd.func5 (by kernel_rfl)
    (of_decide_eq_true (by kernel_rfl)) (by unfold Func.isWrapper; first | (rw [if_pos (by decide +kernel)]; kernel_rfl) | (rw [if_neg (by decide +kernel)]; exact ⟨rfl, rfl⟩))
    (fun os started H enc _ F => by rw [OpenClaim.pre_eq_preRow]; exact ipTrims_lifted os started H enc F)

theorem ipTrimsUpto_card : Rows.IpTrimsUptoCardSaid :=
  Claim7.holds_tied_plain_at .later [] _ _ _ _ ipTrimsUpto_holds (fun _ h => by cases h) (by kernel_rfl) (fun _ h => by cases h) ipTrimsUpto_row_tie rfl ⟨rfl, rfl⟩ (by kernel_rfl) rfl
    (fun f fn hf hfn => by
      obtain rfl : f = 5 := Option.some.inj ((show Tryd.prog.funcNamed "tether/tetherlaw18.IpTrims" = some 5 by kernel_rfl).symm.trans hf) |>.symm
      obtain rfl : fn = Tryd.f5 := (Option.some.inj (Tryd.func5.symm.trans hfn)).symm
      exact ⟨by kernel_rfl, fun j t ht => by
        rw [Tryd.params5] at ht
        have hm : t ∈ [22, 22] := by simpa using Array.mem_of_getElem? ht
        have hall : ([22, 22].all fun u => !Tryd.prog.wantsStandIn u) = true := by kernel_rfl
        exact (show Tryd.prog.wantsStandIn t = false by simpa using List.all_eq_true.1 hall t hm)⟩)
    (by kernel_rfl)
#print axioms ipTrimsUpto_card
end Go.Proofs.YtnfijnioclcnmaaDoor
