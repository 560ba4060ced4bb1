/- IpTurned: for every input the law returns true, and each argument reads behind the call as it read before. -/
import Derived.Test.YtnfijnioclcnmaaDoorRows
import Derived.Test.YtnfijnioclcnmaaDoorTie
import Derived.Test.YtnfijnioclcnmaaDoorCards
import Derived.Test.YtnfijnioclcnmaaDoorPrIpI
import Derived.Test.YtnfijnioclcnmaaDoorSxCame
import Derived.LaidMore
import Derived.OpenShut
import Derived.Lay
import Derived.Laws.Cover2
import Derived.Stop.Joined
import Derived.SevenTiedAt
namespace Go.Proofs.YtnfijnioclcnmaaDoor
open Go Go.ChangeShapes Go.WideShapes Go.ChangeAt Go.WideMaps Go.WideElems Go.RowKit Go.Ev

theorem laidOut_here : laidOutB Tryd.prog = true := by kernel_rfl
theorem own_here : ownKnob Tryd.prog.godebug = Option.none := by kernel_rfl

/-! ### the law as one call -/

theorem turn_tup (cs : List Value) (n c : Nat) (x b : Int) (hb : Bytes cs 0 n) (hc : n ≤ c) (hl : n ≤ cs.length) :
    CTup Tryd.prog 0 3 ([] ++ pSl n c :: [.int .i64 x, .int .i64 b]) (cameH cs 5) (.ret (.bool true)) ((cameH cs 5).rdBit 0) := by
  have hs := hb.small
  have hok : ∀ ops, (rowHints (P := Tryd.prog) ops [(8, awakeFn)] [(7, parseFn)] []).Ok Tryd.prog 0 := fun ops => rowHints_ok AW_ok (.cons parse_ok .nil)
  have hpp : All (parsedP cs n c) := All.cons rfl (All.cons rfl (All.cons hc (All.cons hb All.nil)))
  have hg : (cameH cs 5).get 0 = some (.cells cs 5 1 0 false false) := rowH_get ..
  cases q1 : ((parseF cs n).err != 0) with
  | true => exact row_tup (front := []) zerosFlat_here mixed_here (hok _) (t_err cs 1 0 false false n c x b) (All.append hpp (All.cons q1 All.nil)) rfl rfl hb.flat hg
  | false =>
  cases q2 : ((parseF cs n).ver != 4) with
  | true => exact row_tup (front := []) zerosFlat_here mixed_here (hok _) (t_ver cs 1 0 false false n c x b) (All.append hpp (All.cons q1 (All.cons q2 All.nil))) rfl rfl hb.flat hg
  | false =>
  have he : (parseF cs n).err = 0 := by simpa using q1
  have hv : (parseF cs n).ver = 4 := by simpa using q2
  obtain ⟨h1, hv4, hbad, hh, _⟩ := parse4 he hv
  simp only [isBad4, Bool.or_eq_false_iff, decide_eq_false_iff_not] at hbad
  obtain ⟨⟨⟨⟨⟨⟨g1, g2⟩, g3⟩, g4⟩, g5⟩, g6⟩, g7⟩ := hbad
  obtain ⟨j1, j2⟩ := turnJ_in (H := (parseF cs n).hdr) (by omega) x
  have hk0 : 0 ≤ (b.tmod 8 + 8).tmod 8 ∧ (b.tmod 8 + 8).tmod 8 < 8 := by
    have h8 : -8 < b.tmod 8 ∧ b.tmod 8 < 8 := by
      rcases Int.le_total 0 b with hx | hx
      · rw [Int.tmod_eq_emod_of_nonneg hx]; omega
      · have e : b = -(-b) := by omega
        rw [e, Int.neg_tmod, Int.tmod_eq_emod_of_nonneg (by omega)]; omega
    rw [Int.tmod_eq_emod_of_nonneg (by omega)]
    omega
  have hb8 : -8 < b.tmod 8 ∧ b.tmod 8 < 8 := by
    rcases Int.le_total 0 b with hx | hx
    · rw [Int.tmod_eq_emod_of_nonneg hx]; omega
    · have e : b = -(-b) := by omega
      rw [e, Int.neg_tmod, Int.tmod_eq_emod_of_nonneg (by omega)]; omega
  have hr : -((parseF cs n).hdr - 1) < x.tmod ((parseF cs n).hdr - 1) ∧ x.tmod ((parseF cs n).hdr - 1) < (parseF cs n).hdr - 1 := by
    rcases Int.le_total 0 x with hx | hx
    · rw [Int.tmod_eq_emod_of_nonneg hx]
      have := Int.emod_nonneg x (show (parseF cs n).hdr - 1 ≠ 0 by omega)
      have := Int.emod_lt_of_pos x (show 0 < (parseF cs n).hdr - 1 by omega)
      omega
    · have e : x = -(-x) := by omega
      rw [e, Int.neg_tmod, Int.tmod_eq_emod_of_nonneg (by omega)]
      have := Int.emod_nonneg (-x) (show (parseF cs n).hdr - 1 ≠ 0 by omega)
      have := Int.emod_lt_of_pos (-x) (show 0 < (parseF cs n).hdr - 1 by omega)
      omega
  have hB0 : 0 ≤ B cs 0 ∧ B cs 0 < 256 := (bB hb 0 (by omega)).2
  have hH : (parseF cs n).hdr = 4 * (B cs 0 % 16) := hh
  generalize hj : (turnJ (parseF cs n).hdr x).toNat = j
  have hjn : j < n := by omega
  have hlen := len_takeL (c := cs) (o := 0) (k := n) (by omega)
  obtain ⟨b0, b1, b2⟩ := bB hb j hjn
  have e0 : 0 + j * 1 = j := by omega
  have htk : nth (takeL cs 0 n) j = some (.int .u8 (byteAt cs j)) := by
    have b0' : nth cs j = some (.int .u8 (byteAt cs j)) := b0
    rw [nth_eq] at b0' ⊢
    unfold takeL
    rw [List.getElem?_take, if_pos hjn, List.drop_zero]
    exact b0'
  have hbt : byteAt (takeL cs 0 n) (0 + j * 1) = byteAt cs j := by rw [e0]; exact byteAt_of htk
  generalize hkk : (b.tmod 8 + 8).tmod 8 = k at hk0
  have hturn := turned_err hb hl he hv (j := j) (by omega) (by omega) hk0.1 hk0.2
  obtain ⟨_, y0, y1, _, _⟩ := bit_turn (b := byteAt cs j) b1 b2 hk0.1 hk0.2
  have htb := turned_bytes hb hl hjn y0 y1
  refine row_tup (front := []) zerosFlat_here mixed_here (hok _) (t_turn cs 1 0 false false n c x b (bxor8 (byteAt cs j) (2 ^ k.toNat)) k (by omega)) ?_ rfl rfl hb.flat hg
  unfold turnP
  rw [hj]
  have hone : (takeL cs 0 n).all oneCell = true := by
    rw [List.all_eq_true]
    intro v hv'
    obtain ⟨i, hi, rfl⟩ := List.getElem_of_mem hv'
    have hi' : i < n := by omega
    have h3 := (bB hb i hi').1
    have : (takeL cs 0 n)[i]? = some (.int .u8 (B cs i)) := by
      unfold takeL
      rw [List.getElem?_take, if_pos hi', List.drop_zero, ← nth_eq]
      exact h3
    rw [List.getElem?_eq_getElem hi] at this
    rw [Option.some.inj this]; rfl
  refine All.append (All.append hpp (All.cons q1 (All.cons q2 (All.cons (wrap_in (by omega) (by omega)) (All.cons (by omega) (All.cons rfl (All.cons (wrap_in (by omega) (by omega)) (All.cons (wrap_in (by omega) (by omega)) (All.cons (wrap_in (by omega) (by omega)) (All.cons (by omega) (All.cons rfl
    (All.cons ?_ (All.cons (by omega) (All.cons hs (All.cons (by omega) (All.cons hone (All.cons ⟨by omega, by omega⟩ (All.cons ?_ (All.cons (wrap_in (by omega) (by omega)) (All.cons hkk (All.cons (by rw [hbt]) (All.cons ⟨by omega, by omega⟩ (All.cons (by rw [hlen]; omega) (All.cons ⟨Nat.le_refl 0, by omega⟩ All.nil)))))))))))))))))))))))) ?_
  · have : turnJ (parseF cs n).hdr x = 1 + (x.tmod ((parseF cs n).hdr - 1) + (parseF cs n).hdr - 1).tmod ((parseF cs n).hdr - 1) := rfl
    rw [← this]
    exact wrap_in (by omega) (by omega)
  · rw [hbt, e0]; exact htk
  · exact All.append (All.cons rfl (All.cons rfl (All.cons (Nat.le_refl n) (All.cons htb All.nil)))) (All.cons (by simpa using hturn) All.nil)
theorem turn_nil (x b : Int) (h : AH) : CTup Tryd.prog 0 3 [.slice none 0 0, .int .i64 x, .int .i64 b] h (.ret (.bool true)) h :=
  plain_tup zerosFlat_here mixed_here (plainHints_ok AW_ok) (t_nil x b) (fun p hp => by cases hp) rfl h

/-! ### the row -/

theorem laid_fits (os : Os) : (World.holding Tryd.prog os ⟨#[], #[], []⟩).layFits Tryd.prog Rows.ipTurnedRow.laid [] = true := by kernel_rfl
theorem laid_ifaces (os : Os) : (World.holding Tryd.prog os ⟨#[], #[], []⟩).layIfaces Tryd.prog Rows.ipTurnedRow.laid (World.laidAll Tryd.prog os Rows.ipTurnedRow.laid) = true := by kernel_rfl
theorem laid_shaped (os : Os) : ((World.laidAll Tryd.prog os Rows.ipTurnedRow.laid).forCall (fun _ _ => 0) ⟨#[], #[.slice none 0 0, .int .i64 0, .int .i64 0], []⟩).Shaped Tryd.prog := World.shaped_of_ZipB (by kernel_rfl) (by kernel_rfl)

set_option maxRecDepth 100000 in
theorem ipTurned_lifted (os : Os) (started : os.Started) (H : Type) (enc : TypeId × Value → H) :
    ReturnsInHanded {} Tryd.checked os 3 .any (fun w args => (Rows.ipTurnedSpec.pre enc Tryd.prog Tryd.f3 [] false w args ∧ laidMetH Tryd.prog Rows.ipTurnedRow.laid w) ∧ sizedMet enc Tryd.prog Tryd.f3 (OpenSpec.ofChange Rows.ipTurnedSpec) false w args)
      (Rows.ipTurnedSpec.post enc Tryd.prog Tryd.f3 false true false false) := by
  refine returnsInHanded_of_change_and (C := Tryd.checked) (X := fun w _ => laidMetH Tryd.prog Rows.ipTurnedRow.laid w) (fun _ _ _ hh h => h.of_heap hh) own_here started (by kernel_rfl) Tryd.func3
    (ChangeSpec.witness_shaped (enc := enc) (C := Tryd.checked) (os := os) (X := fun w _ => laidMetH Tryd.prog Rows.ipTurnedRow.laid w) false (World.laidAll Tryd.prog os Rows.ipTurnedRow.laid) #[.slice none 0 0, .int .i64 0, .int .i64 0] 8 (World.laidAll_os _ _ _) (laid_shaped os) (by kernel_rfl) (by kernel_rfl) (by kernel_rfl)
      (by rw [MakeChecks.laidMetH_plain _ _ _ (by kernel_rfl)]; exact laidMet_laidAll _ (laid_fits os) (laid_ifaces os))) ?_
  intro W base args ds gs before hval0 hW _ hwt _ _
  have hval : ∀ (j : Nat) t v, Tryd.f3.params[j]? = some t → args[j]? = some v → Value.okWide Tryd.prog W .any base t v := hval0
  have hW' := hW
  obtain ⟨p, q, hA0, hV, rfl, hfz, hnd⟩ := hW
  have hA : DataW.TrodAll enc Tryd.prog W 0 (fun _ => true) true Tryd.f3.params.toList args.toList ds p := hA0
  rw [Tryd.params3] at hA hval
  obtain ⟨v0, v1, v2, d0, d1, d2, p0, p1, p2, rfl, rfl, rfl, h0, h1, h2⟩ := trodAll_three hA
  obtain ⟨rfl, rfl⟩ := trodVars_none hV
  have t5 : Tryd.prog.underlying 5 = some (.int .u8) := by kernel_rfl
  have t22 : Tryd.prog.underlying 22 = some (.slice 5) := by kernel_rfl
  have t3 : Tryd.prog.underlying 3 = some (.int .i64) := by kernel_rfl
  have c5 : Tryd.prog.cellsOf 5 = 1 := by kernel_rfl
  obtain ⟨x, rfl, rfl, rfl, _⟩ := open_int t3 (hval 1 3 v1 rfl rfl) h1
  obtain ⟨b, rfl, rfl, rfl, _⟩ := open_int t3 (hval 2 3 v2 rfl rfl) h2
  have hcall : Calls Tryd.prog 3 #[v0, .int .i64 x, .int .i64 b] W fun e W' => e = .returned (.bool true) ∧ Below W.heap.size W W' := by
    rcases bytes_came t22 t5 c5 (hval 0 22 v0 rfl rfl) h0 with rfl | ⟨a, n, c, zs, cs', e', fz, rfl, hs, hh, hnc, hz, hle, hby, hcells, ls, ss, rfl, hlen⟩
    · exact plain_law (turn_nil x b) rfl rfl (w := W) (Nat.zero_le _)
    · have hc : c ≤ 140737488355328 := by
        have hw : (((ls.length + ss.length) * Tryd.prog.bytesOf 5) ≤ reachBytes) := by
          have := List.all_eq_true.1 hwt ((ls.length + ss.length) * Tryd.prog.bytesOf 5) (by
            have e : Tryd.f3.params.toList ++ Rows.ipTurnedSpec.plain.varTypes Tryd.prog = [22, 3, 3] := by kernel_rfl
            have e2 : Tryd.checked.prog = Tryd.prog := rfl
            rw [e2, e]
            simp [DataW.weightsEach, DataW.weights, t22])
          simpa using this
        have b5 : Tryd.prog.bytesOf 5 = 1 := by kernel_rfl
        rw [b5, hlen] at hw
        have : reachBytes = 140737488351232 := rfl
        omega
      have hb : Bytes (u8L zs) 0 n := bytes_u8 hby (by omega) (by omega)
      have hlz : (u8L zs).length = c := by unfold u8L; simp [hz]
      exact CTup.came (front := []) (turn_tup (u8L zs) n c x b hb hnc (by omega)) rfl rfl rfl (show (0 : Nat).testBit 0 = false from Nat.zero_testBit 0) hs hh (by omega) hcells (flatL_u8 zs)
  refine hcall.mono fun e W' hen => ?_
  obtain ⟨rfl, hgr⟩ := hen
  exact ⟨_, rfl, post_true laidOut_here (by kernel_rfl) rfl rfl (show Tryd.prog.underlying 4 = some .bool by kernel_rfl) ⟨rfl, rfl, rfl⟩ hW' hgr⟩

theorem ipTurned_holds : Rows.IpTurnedSaid :=
  OpenClaim.holds_of_wide 3 Tryd.f3 rfl rfl rfl rfl rfl rfl rfl ⟨rfl, rfl, rfl, rfl, rfl⟩ rfl rfl rfl rfl rfl (by kernel_rfl) Tryd.func3 (by kernel_rfl)
    (of_decide_eq_true (by kernel_rfl)) (by unfold Func.isWrapper; first | (rw [if_pos (by decide +kernel)]; kernel_rfl) | (rw [if_neg (by decide +kernel)]; exact ⟨rfl, rfl⟩))
    (fun os started H enc _ => ipTurned_lifted os started H enc)

theorem ipTurned_card : Rows.IpTurnedCardSaid :=
  Claim7.holds_tied_plain_at .later [] [.data, .data, .data] true (true, "9f5e40c4ab07e8b6637b783dab0b0024ec096ab1322a1f1a18ad9e91c74dded5") false
    ipTurned_holds (fun _ h => by cases h) (by kernel_rfl) (fun _ h => by cases h) ipTurned_row_tie rfl ⟨rfl, rfl⟩ (by kernel_rfl) rfl
    (fun f fn hf hfn => by
      obtain rfl : f = 3 := Option.some.inj ((show Tryd.prog.funcNamed "tether/tetherlaw18.IpTurned" = some 3 by kernel_rfl).symm.trans hf) |>.symm
      obtain rfl : fn = Tryd.f3 := (Option.some.inj (Tryd.func3.symm.trans hfn)).symm
      exact ⟨by kernel_rfl, fun j t ht => by
        rw [Tryd.params3] at ht
        have hm : t ∈ [22, 3, 3] := by simpa using Array.mem_of_getElem? ht
        have hall : ([22, 3, 3].all fun u => !Tryd.prog.wantsStandIn u) = true := by kernel_rfl
        exact (show Tryd.prog.wantsStandIn t = false by simpa using List.all_eq_true.1 hall t hm)⟩)
    (by kernel_rfl)
#print axioms ipTurned_card
end Go.Proofs.YtnfijnioclcnmaaDoor
