/- secrets: the document's words. -/
import Derived.Test.YtnadimjglkodkaaGreatDoorPrTwB
import Derived.Test.YtnadimjglkodkaaGreatDoorPrTwP
namespace Go.Proofs.Sr
open Go Go.RowKit Go.Pl Go.Proofs.Sa
theorem blkS_of (c : UInt8) : blkS c = (decide (c.toNat = 32) || decide (c.toNat = 9) || decide (c.toNat = 13)) := by
  have h : ∀ k : Nat, k < 256 → (c == UInt8.ofNat k) = decide (c.toNat = k) := fun k hk => by
    by_cases he : c.toNat = k
    · have : c = UInt8.ofNat k := UInt8.toNat_inj.1 (by rw [he]; simp; omega)
      rw [this]; simp; omega
    · have : c ≠ UInt8.ofNat k := fun e => he (by rw [e]; simp; omega)
      simp [this, he]
  unfold blkS
  rw [← h 32 (by decide), ← h 9 (by decide), ← h 13 (by decide)]
  rfl
set_option maxRecDepth 1000000 in
theorem rblank_any (c : UInt8) (w : World) : Calls Tryz.prog 84 #[.int .u8 c.toNat] w fun e w' => e = .returned (.bool (blkS c)) ∧ w' = w := by
  have hb := blkS_of c
  by_cases h1 : c.toNat = 32
  · have e1 : (((c.toNat : Nat) : Int) == 32) = true := by simp; omega
    have hr : blkS c = true := by rw [hb]; simp [h1]
    go_enter Tryz.func84, Tryz.ntmps84
    go_wp2
    go_ret
    exact ⟨by simp [hr], rfl⟩
  have e1 : (((c.toNat : Nat) : Int) == 32) = false := by simp; omega
  by_cases h2 : c.toNat = 9
  · have e2 : (((c.toNat : Nat) : Int) == 9) = true := by simp; omega
    have hr : blkS c = true := by rw [hb]; simp [h2]
    go_enter Tryz.func84, Tryz.ntmps84
    go_wp2
    go_ret
    exact ⟨by simp [hr], rfl⟩
  have e2 : (((c.toNat : Nat) : Int) == 9) = false := by simp; omega
  have hr : blkS c = decide (c.toNat = 13) := by rw [hb]; simp [h1, h2]
  by_cases h3 : c.toNat = 13
  · have e3 : (((c.toNat : Nat) : Int) == 13) = true := by simp; omega
    go_enter Tryz.func84, Tryz.ntmps84
    go_wp2
    go_ret
    exact ⟨by simp [hr, h3], rfl⟩
  · have e3 : (((c.toNat : Nat) : Int) == 13) = false := by simp; omega
    go_enter Tryz.func84, Tryz.ntmps84
    go_wp2
    go_ret
    exact ⟨by simp [hr, h3], rfl⟩
/-- What the document's words answers. -/
def VRet (l : List UInt8) (w : World) (e : Ending) (w' : World) : Prop :=
  (∀ ws, wordsS (l.length + 1) [] l = some ws → ∃ v, e = .returned (.tuple #[v, .bool true]) ∧ w'.ownsRow w.heap.size 9 1 v ws.length (wordsV ws)) ∧ (wordsS (l.length + 1) [] l = none → e = .returned (.tuple #[.slice none 0 0, .bool false])) ∧ Below w.heap.size w w'
theorem VRet.good {l : List UInt8} {w w' : World} {ws : List (List UInt8)} {v : Value} (h : wordsS (l.length + 1) [] l = some ws) (ho : w'.ownsRow w.heap.size 9 1 v ws.length (wordsV ws)) (hb : Below w.heap.size w w') : VRet l w (.returned (.tuple #[v, .bool true])) w' :=
  ⟨fun ws' e => (by rw [h] at e; cases e; exact ⟨v, rfl, ho⟩), fun e => (by rw [h] at e; cases e), hb⟩
theorem VRet.bad {l : List UInt8} {w w' : World} (h : wordsS (l.length + 1) [] l = none) (hb : Below w.heap.size w w') : VRet l w (.returned (.tuple #[.slice none 0 0, .bool false])) w' :=
  ⟨fun ws' e => (by rw [h] at e; cases e), fun _ => rfl, hb⟩
/-- What holds ahead of a round. -/
structure Vst (w : World) (r : Option (List (List UInt8))) (l : List UInt8) (F i : Nat) (ws : List (List UInt8)) (v : Value) (wx : World) : Prop where
  own : wx.ownsRow w.heap.size 9 1 v ws.length (wordsV ws)
  below : Below w.heap.size w wx
  eq : wordsS F ws (l.drop i) = r
  len : ws.length ≤ i
theorem Vst.next {w : World} {r : Option (List (List UInt8))} {l x : List UInt8} {F F' i j : Nat} {ws : List (List UInt8)} {v v' : Value} {wx w3 : World} {o : Obj} (h : Vst w r l F i ws v wx) (hl : i < j) (he : wordsS F ws (l.drop i) = wordsS F' (ws ++ [x]) (l.drop j))
    (hown : w3.ownsRow w.heap.size 9 1 v' (ws.length + 1) (wordsV ws ++ [strV x])) (hg : (wx.alloc o).grownBy w3 v.ownBlock) : Vst w r l F' j (ws ++ [x]) v' w3 :=
  ⟨by
    have : wordsV (ws ++ [x]) = wordsV ws ++ [strV x] := by simp [wordsV]
    rw [this, List.length_append]; exact hown, (h.below.alloc h.below.size o).grown hg (by have := h.below.size; simp; omega) (fun k hk => (h.own.lt k hk).1), he.symm.trans h.eq, by have := h.len; simp; omega⟩
theorem Vst.kept {w : World} {r : Option (List (List UInt8))} {l : List UInt8} {F i : Nat} {ws : List (List UInt8)} {v : Value} {wx w' : World} (h : Vst w r l F i ws v wx) (hb : Below wx.heap.size wx w') : Vst w r l F i ws v w' :=
  ⟨own_below h.own hb, below_step h.below hb, h.eq, h.len⟩
/-- Bytes that are gathered. -/
structure Byt (B : Nat) (w0 : World) (acc : List UInt8) (v : Value) (wx : World) : Prop where
  own : wx.ownsRow B 5 1 v acc.length (Lib.byteCells acc)
  below : Below B w0 wx
  le : B ≤ wx.heap.size
theorem Byt.next {B : Nat} {w0 : World} {acc : List UInt8} {v v' : Value} {wx w3 : World} {x : UInt8} {c : Int} {o : Obj} (h : Byt B w0 acc v wx) (hc : c = x.toNat) (hown : w3.ownsRow B 5 1 v' (acc.length + 1) (Lib.byteCells acc ++ [.int .u8 c])) (hg : (wx.alloc o).grownBy w3 v.ownBlock) : Byt B w0 (acc ++ [x]) v' w3 :=
  ⟨by rw [Lib.byteCells_append]; subst hc; rw [List.length_append]; exact hown, (h.below.alloc h.le o).grown hg (by have := h.le; simp; omega) (fun k hk => (h.own.lt k hk).1), by have := hg.size; have := h.le; simp at *; omega⟩
theorem take_next (s : ByteArray) (j p : Nat) (hp : p < s.size) (hj : j ≤ p) : (s.data.toList.drop j).take (p - j) ++ [s[p]] = (s.data.toList.drop j).take (p + 1 - j) := by
  rw [show p + 1 - j = (p - j) + 1 by omega, List.take_add_one, List.getElem?_drop, show j + (p - j) = p by omega, Lib.data_getElem? s p hp]
  rfl
set_option maxRecDepth 1000000 in
set_option maxHeartbeats 6400000 in
theorem rwords_any (s : ByteArray) (hs : s.size < 4294967281) (w : World) : Calls Tryz.prog 75 #[.string s] w (VRet s.data.toList w) := by
  have HSZ := Lib.hid (Lib.size_eq s)
  obtain ⟨i0, hi0, hz0, hz1, hz2⟩ := info_parts info9
  obtain ⟨i5, hi5, hz50, hz51, hz52⟩ := info_parts info5
  obtain ⟨r, hr⟩ : ∃ r, wordsS (s.data.toList.length + 1) [] s.data.toList = r := ⟨_, rfl⟩
  have HS0 : Hid (Vst w r s.data.toList (s.size + 1) 0 [] (.slice none 0 0) w) := Lib.hid ⟨World.ownsRow_nil _ _ _ _, Below.refl _ _, by rw [← hr, ← HSZ.out]; rfl, Nat.le_refl _⟩
  have HRr := Lib.hid hr
  clear hr
  go_enter Tryz.func75, Tryz.ntmps75
  go_wp2
  go_loopg [4, 5] (s.size + 1) (fun g s4 s5 wx => ∃ (i F : Nat) (ws : List (List UInt8)) (v : Value), s5 = .int .i64 i ∧ v = s4 ∧ i + g = s.size + 1 ∧ i ≤ s.size ∧ s.size < F + i ∧ Hid (Vst w r s.data.toList F i ws v wx))
  case atStart => exact ⟨0, s.size + 1, [], _, rfl, rfl, by omega, Nat.zero_le _, by omega, HS0⟩
  case round =>
    obtain ⟨i, F, ws, v, rfl, rfl, hig, his, hF, HR⟩ := hrel
    cases gk with
    | zero => omega
    | succ g =>
    go_upto_block 2 with fail
    go_cut [5] (fun s5 wx => wx = wr ∧ ∃ (j F' : Nat), s5 = .int .i64 j ∧ i ≤ j ∧ j ≤ s.size ∧ s.size < F' + j ∧ Hid (Vst w r s.data.toList F' j ws v wr) ∧ (j = s.size ∨ ∃ hj : j < s.size, blkS s[j] = false))
    case first =>
      go_wp2
      go_loopg [5] (s.size - i) (fun g2 s5 wx => ∃ (j F' : Nat), j + g2 = s.size ∧ s5 = .int .i64 j ∧ wx = wr ∧ i ≤ j ∧ s.size < F' + j ∧ Hid (Vst w r s.data.toList F' j ws v wr))
      case atStart => exact ⟨i, F, by omega, rfl, rfl, Nat.le_refl _, hF, HR⟩
      case round =>
        obtain ⟨j, F', hj2, rfl, hwx, hij, hF', HR2⟩ := hrel
        subst hwx
        by_cases hj : j < s.size
        · have c0 : (j : Int) < (s.size : Int) := by omega
          have c8 : (0 : Int) ≤ (j : Int) := by omega
          have HBl := Lib.hid (fun w => rblank_any s[j] w)
          have HD := Lib.hid (drop_at s j hj)
          cases hb : blkS s[j] with
          | true =>
            rw [hb] at HBl
            cases gk with
            | zero => omega
            | succ g3 =>
              cases F' with
              | zero => omega
              | succ F2 =>
                have HX : Hid (Vst w r s.data.toList F2 (j + 1) ws v wr) := Lib.hid ⟨HR2.out.own, HR2.out.below, by rw [← HR2.out.eq, HD.out, wordsS_blank hb], Nat.le_succ_of_le HR2.out.len⟩
                go_wp2_with (go_at_call 84; refine (HBl.out _).mono ?_; rintro e w5 ⟨rfl, hw5⟩; have hw5 := hw5.symm; subst hw5)
                go_roundg g3
                case measure => omega
                case rel => exact ⟨j + 1, F2, by omega, by simp, rfl, by omega, by omega, HX⟩
          | false =>
            rw [hb] at HBl
            go_wp2_with (go_at_call 84; refine (HBl.out _).mono ?_; rintro e w5 ⟨rfl, hw5⟩; have hw5 := hw5.symm; subst hw5)
            go_meet
            exact ⟨rfl, j, F', rfl, hij, by omega, hF', HR2, .inr ⟨hj, hb⟩⟩
        · have c0 : ¬ (j : Int) < (s.size : Int) := by omega
          go_wp2
          go_meet
          exact ⟨rfl, j, F', rfl, hij, by omega, hF', HR2, .inl (by omega)⟩
    case rest =>
      obtain ⟨hwx, j, F', rfl, hij, hjs, hF', HR2, hend⟩ := hcut
      have hwx := hwx.symm
      subst hwx
      by_cases hj : j < s.size
      case neg =>
        have c0 : (s.size : Int) ≤ (j : Int) := by omega
        have HF := Lib.hid (show wordsS (s.data.toList.length + 1) [] s.data.toList = some ws by
          rw [HRr.out, ← HR2.out.eq, drop_end s j (by omega)]
          cases F' with
          | zero => omega
          | succ F2 => rfl)
        clear hend
        go_wp2
        go_ret2
        exact VRet.good HF.out HR2.out.own HR2.out.below
      case pos =>
      have hb : blkS s[j] = false := by
        rcases hend with h | ⟨_, h⟩
        · omega
        · exact h
      clear hend
      obtain ⟨F2, rfl⟩ : ∃ F2, F' = F2 + 1 := ⟨F' - 1, by omega⟩
      have c0 : ¬ (s.size : Int) ≤ (j : Int) := by omega
      have c1 : (j : Int) < (s.size : Int) := by omega
      have c8 : (0 : Int) ≤ (j : Int) := by omega
      have HD := Lib.hid (drop_at s j hj)
      by_cases h35 : (s[j]).toNat = 35
      · have e35 : (((s[j]).toNat : Int) == 35) = true := by simp; omega
        have HF := Lib.hid (show wordsS (s.data.toList.length + 1) [] s.data.toList = some ws by rw [HRr.out, ← HR2.out.eq, HD.out, wordsS_hash hb h35])
        go_wp2
        go_ret2
        exact VRet.good HF.out HR2.out.own HR2.out.below
      have e35 : (((s[j]).toNat : Int) == 35) = false := by simp; omega
      have hwl : ws.length ≤ 4294967281 := by have := HR2.out.len; omega
      generalize hB : wr.heap.size = B at *
      have HBw := Lib.hid hB
      by_cases h34 : (s[j]).toNat = 34
      · have e34 : (((s[j]).toNat : Int) == 34) = true := by simp; omega
        have HBt : Hid (Byt B wr [] (.slice none 0 0) wr) := Lib.hid ⟨World.ownsRow_nil _ _ _ _, Below.refl _ _, by omega⟩
        have HNoQ := Lib.hid (fun (h : quoS [] (s.data.toList.drop (j + 1)) = none) => (show wordsS (s.data.toList.length + 1) [] s.data.toList = none by rw [HRr.out, ← HR2.out.eq, HD.out, wordsS_noquo hb h34 h]))
        have HVb := Lib.hid (fun w' (h : Below B wr w') => HR2.out.kept (hB ▸ h))
        clear hB
        go_upto_block 4 with fail
        go_cut [5, 6] (fun s5 s6 wx => ∃ (k : Nat) (acc : List UInt8) (v6 : Value), s5 = .int .i64 k ∧ v6 = s6 ∧ j + 1 < k ∧ k ≤ s.size ∧ acc.length ≤ k ∧ Hid (Byt B wr acc v6 wx) ∧ Hid ((if (s.data.toList.drop k).head?.all stopS then some (acc, s.data.toList.drop k) else none) = quoS [] (s.data.toList.drop (j + 1))))
        case first =>
          go_wp2
          go_loopg [5, 6] (s.size - (j + 1)) (fun g2 s5 s6 wx => ∃ (p : Nat) (acc : List UInt8) (v6 : Value), p + g2 = s.size ∧ s5 = .int .i64 p ∧ v6 = s6 ∧ j + 1 ≤ p ∧ acc.length ≤ p ∧ Hid (Byt B wr acc v6 wx) ∧ Hid (quoS acc (s.data.toList.drop p) = quoS [] (s.data.toList.drop (j + 1))))
          case atStart => exact ⟨j + 1, [], _, by omega, by simp, rfl, Nat.le_refl _, Nat.zero_le _, HBt, Lib.hid rfl⟩
          case round =>
            obtain ⟨p, acc, v6, hpg, rfl, rfl, hjp, hal, HQ, HE⟩ := hrel
            by_cases hp : p < s.size
            case neg =>
              have d0 : (s.size : Int) ≤ (p : Int) := by omega
              have HF := Lib.hid (HNoQ.out (by rw [← HE.out, drop_end s p (by omega)]; rfl))
              have HVx := Lib.hid (HVb.out _ HQ.out.below)
              go_wp2
              go_ret2
              exact VRet.bad HF.out HVx.out.below
            case pos =>
            have d0 : ¬ (s.size : Int) ≤ (p : Int) := by omega
            have d1 : (p : Int) < (s.size : Int) := by omega
            have d8 : (0 : Int) ≤ (p : Int) := by omega
            have HDp := Lib.hid (drop_at s p hp)
            cases gk with
            | zero => omega
            | succ g2 =>
            by_cases h34 : (s[p]).toNat = 34
            · have e34 : (((s[p]).toNat : Int) == 34) = true := by simp; omega
              have HEnd := Lib.hid (show (if (s.data.toList.drop (p + 1)).head?.all stopS then some (acc, s.data.toList.drop (p + 1)) else none) = quoS [] (s.data.toList.drop (j + 1)) by rw [← HE.out, HDp.out, quoS_end h34])
              go_wp2
              go_meet
              exact ⟨p + 1, acc, _, by simp, rfl, by omega, by omega, by omega, HQ, HEnd⟩
            have e34 : (((s[p]).toNat : Int) == 34) = false := by simp; omega
            by_cases h92 : (s[p]).toNat = 92
            · have e92 : (((s[p]).toNat : Int) == 92) = true := by simp; omega
              by_cases hp1 : p + 1 < s.size
              case neg =>
                have d3 : (s.size : Int) ≤ (p : Int) + 1 := by omega
                have HF := Lib.hid (HNoQ.out (by rw [← HE.out, HDp.out, drop_end s (p + 1) (by omega), quoS_cut h92]))
                have HVx := Lib.hid (HVb.out _ HQ.out.below)
                go_wp2
                go_ret2
                exact VRet.bad HF.out HVx.out.below
              case pos =>
              have d3 : ¬ (s.size : Int) ≤ (p : Int) + 1 := by omega
              have d4 : (p : Int) + 1 < (s.size : Int) := by omega
              have HDq := Lib.hid (drop_at s (p + 1) hp1)
              by_cases hk : (s[p + 1]).toNat = 34 ∨ (s[p + 1]).toNat = 92
              · have HE2 := Lib.hid (show quoS (acc ++ [s[p + 1]]) (s.data.toList.drop (p + 1 + 1)) = quoS [] (s.data.toList.drop (j + 1)) by rw [← HE.out, HDp.out, HDq.out, quoS_esc h92 hk])
                rcases hk with hk | hk
                · have e4 : (((s[p + 1]).toNat : Int) != 34) = false := by simp; omega
                  go_wp2_with (at_builtin; go_loud (refine wpList_append_own _ rfl _ _ 102 rfl B 5 i5 (.int .u8 0) 1 1 Tryz.underlying102 hi5 hz50 hz51 hz52 rfl (by decide) _ _ _ rfl (HQ.out.own.alloc _) ⟨wr.heap.size, 0, none⟩ 1 1 [.int .u8 34] rfl rfl (cell_one_new _ _ _) (fun u hu => by simp at hu; subst hu; rfl) (by unfold maxLen; omega) (by omega) (by have := HQ.out.le; simp; omega) ?_; intro v' w3 hown' hgrow' hnil'; have HO := Lib.hid hown'; have HG := Lib.hid hgrow'; clear hown' hgrow' hnil'))
                  go_roundg (g2 - 1)
                  case measure => omega
                  case rel => exact ⟨p + 1 + 1, _, _, by omega, by first | (simp; done) | (simp; omega), rfl, by omega, by simp; omega, Lib.hid (HQ.out.next (by simp [hk]) HO.out HG.out), HE2⟩
                · have e4 : (((s[p + 1]).toNat : Int) != 34) = true := by simp; omega
                  have e5 : (((s[p + 1]).toNat : Int) != 92) = false := by simp; omega
                  go_wp2_with (at_builtin; go_loud (refine wpList_append_own _ rfl _ _ 102 rfl B 5 i5 (.int .u8 0) 1 1 Tryz.underlying102 hi5 hz50 hz51 hz52 rfl (by decide) _ _ _ rfl (HQ.out.own.alloc _) ⟨wr.heap.size, 0, none⟩ 1 1 [.int .u8 92] rfl rfl (cell_one_new _ _ _) (fun u hu => by simp at hu; subst hu; rfl) (by unfold maxLen; omega) (by omega) (by have := HQ.out.le; simp; omega) ?_; intro v' w3 hown' hgrow' hnil'; have HO := Lib.hid hown'; have HG := Lib.hid hgrow'; clear hown' hgrow' hnil'))
                  go_roundg (g2 - 1)
                  case measure => omega
                  case rel => exact ⟨p + 1 + 1, _, _, by omega, by first | (simp; done) | (simp; omega), rfl, by omega, by simp; omega, Lib.hid (HQ.out.next (by simp [hk]) HO.out HG.out), HE2⟩
              · have HF := Lib.hid (HNoQ.out (by rw [← HE.out, HDp.out, HDq.out, quoS_noesc h92 hk]))
                have HVx := Lib.hid (HVb.out _ HQ.out.below)
                have e4 : (((s[p + 1]).toNat : Int) != 34) = true := by simp; omega
                have e5 : (((s[p + 1]).toNat : Int) != 92) = true := by simp; omega
                go_wp2
                go_ret2
                exact VRet.bad HF.out HVx.out.below
            have e92 : (((s[p]).toNat : Int) == 92) = false := by simp; omega
            have HE2 := Lib.hid (show quoS (acc ++ [s[p]]) (s.data.toList.drop (p + 1)) = quoS [] (s.data.toList.drop (j + 1)) by rw [← HE.out, HDp.out, quoS_step h34 h92])
            go_wp2_with (at_builtin; go_loud (refine wpList_append_own _ rfl _ _ 102 rfl B 5 i5 (.int .u8 0) 1 1 Tryz.underlying102 hi5 hz50 hz51 hz52 rfl (by decide) _ _ _ rfl (HQ.out.own.alloc _) ⟨wr.heap.size, 0, none⟩ 1 1 [.int .u8 (s[p]).toNat] rfl rfl (cell_one_new _ _ _) (fun u hu => by simp at hu; subst hu; rfl) (by unfold maxLen; omega) (by omega) (by have := HQ.out.le; simp; omega) ?_; intro v' w3 hown' hgrow' hnil'; have HO := Lib.hid hown'; have HG := Lib.hid hgrow'; clear hown' hgrow' hnil'))
            go_roundg g2
            case measure => omega
            case rel => exact ⟨p + 1, _, _, by omega, by simp, rfl, by omega, by simp; omega, Lib.hid (HQ.out.next rfl HO.out HG.out), HE2⟩
        case rest =>
          obtain ⟨k, acc, v6, rfl, rfl, hjk, hks, hak, HQ, HE⟩ := hcut
          have HVx := Lib.hid (HVb.out _ HQ.out.below)
          have hcv := conv_own HQ.out.own
          have d8 : (0 : Int) ≤ (k : Int) := by omega
          have HWq := Lib.hid (fun (h : (s.data.toList.drop k).head?.all stopS = true) => (show wordsS (F2 + 1) ws (s.data.toList.drop j) = wordsS F2 (ws ++ [acc]) (s.data.toList.drop k) by
            rw [HD.out]
            refine wordsS_quo hb h34 ?_
            rw [← HE.out, if_pos h]))
          by_cases hk : k < s.size
          case neg =>
            have d0 : ¬ (k : Int) < (s.size : Int) := by omega
            have HW := Lib.hid (HWq.out (by rw [drop_end s k (by omega)]; rfl))
            go_wp2_with (at_builtin; go_loud (refine wpList_append_own _ rfl _ _ 106 rfl w.heap.size 9 i0 (.string ⟨#[]⟩) 1 16 Tryz.underlying106 hi0 hz0 hz1 hz2 rfl (by decide) _ _ _ rfl (HVx.out.own.alloc _) ⟨wc.heap.size, 0, none⟩ 1 1 [.string ⟨acc.toArray⟩] rfl rfl (cell_one_new _ _ _) (fun u hu => by simp at hu; subst hu; rfl) (by unfold maxLen; omega) (by omega) (by have := HVx.out.below.size; simp; omega) ?_; intro v' w3 hown' hgrow' hnil'; have HO := Lib.hid hown'; have HG := Lib.hid hgrow'; clear hown' hgrow' hnil'))
            go_roundg (s.size + 1 - k)
            case measure => omega
            case rel => exact ⟨k, F2, ws ++ [acc], _, rfl, rfl, by omega, by omega, by omega, Lib.hid (HVx.out.next (by omega) HW.out HO.out HG.out)⟩
          case pos =>
          have d0 : (k : Int) < (s.size : Int) := by omega
          have HBk := Lib.hid (fun w => rblank_any s[k] w)
          have hsk : (s.data.toList.drop k).head?.all stopS = stopS s[k] := by rw [drop_at s k hk]; rfl
          have HSk := Lib.hid hsk
          clear hsk
          cases hbk : blkS s[k] with
          | true =>
            rw [hbk] at HBk
            have HW := Lib.hid (HWq.out (by rw [HSk.out]; unfold stopS; rw [hbk]; rfl))
            go_wp2_with (first
              | (go_at_call 84; refine (HBk.out _).mono ?_; rintro e w5 ⟨rfl, hw5⟩; have hw5 := hw5.symm; subst hw5)
              | (at_builtin; go_loud (refine wpList_append_own _ rfl _ _ 106 rfl w.heap.size 9 i0 (.string ⟨#[]⟩) 1 16 Tryz.underlying106 hi0 hz0 hz1 hz2 rfl (by decide) _ _ _ rfl (HVx.out.own.alloc _) ⟨wc.heap.size, 0, none⟩ 1 1 [.string ⟨acc.toArray⟩] rfl rfl (cell_one_new _ _ _) (fun u hu => by simp at hu; subst hu; rfl) (by unfold maxLen; omega) (by omega) (by have := HVx.out.below.size; simp; omega) ?_; intro v' w3 hown' hgrow' hnil'; have HO := Lib.hid hown'; have HG := Lib.hid hgrow'; clear hown' hgrow' hnil')))
            go_roundg (s.size + 1 - k)
            case measure => omega
            case rel => exact ⟨k, F2, ws ++ [acc], _, rfl, rfl, by omega, by omega, by omega, Lib.hid (HVx.out.next (by omega) HW.out HO.out HG.out)⟩
          | false =>
            rw [hbk] at HBk
            by_cases hk5 : (s[k]).toNat = 35
            · have e5 : (((s[k]).toNat : Int) != 35) = false := by simp; omega
              have HB5 : Hid (∀ w, Calls Tryz.prog 84 #[.int .u8 35] w fun e w' => e = .returned (.bool false) ∧ w' = w) := Lib.hid (fun w => by
                have := HBk.out w
                rwa [hk5] at this)
              have HW := Lib.hid (HWq.out (by
                rw [HSk.out]
                have : s[k] = 35 := UInt8.toNat_inj.1 hk5
                rw [this]; decide))
              go_wp2_with (first
                | (go_at_call 84; refine (HB5.out _).mono ?_; rintro e w5 ⟨rfl, hw5⟩; have hw5 := hw5.symm; subst hw5)
                | (at_builtin; go_loud (refine wpList_append_own _ rfl _ _ 106 rfl w.heap.size 9 i0 (.string ⟨#[]⟩) 1 16 Tryz.underlying106 hi0 hz0 hz1 hz2 rfl (by decide) _ _ _ rfl (HVx.out.own.alloc _) ⟨wc.heap.size, 0, none⟩ 1 1 [.string ⟨acc.toArray⟩] rfl rfl (cell_one_new _ _ _) (fun u hu => by simp at hu; subst hu; rfl) (by unfold maxLen; omega) (by omega) (by have := HVx.out.below.size; simp; omega) ?_; intro v' w3 hown' hgrow' hnil'; have HO := Lib.hid hown'; have HG := Lib.hid hgrow'; clear hown' hgrow' hnil')))
              go_roundg (s.size + 1 - k)
              case measure => omega
              case rel => exact ⟨k, F2, ws ++ [acc], _, rfl, rfl, by omega, by omega, by omega, Lib.hid (HVx.out.next (by omega) HW.out HO.out HG.out)⟩
            · have e5 : (((s[k]).toNat : Int) != 35) = true := by simp; omega
              have HF := Lib.hid (HNoQ.out (by
                rw [← HE.out, if_neg]
                rw [HSk.out]
                have : s[k] ≠ 35 := fun e => hk5 (by rw [e]; rfl)
                unfold stopS
                simp [hbk, this]))
              go_wp2_with (go_at_call 84; refine (HBk.out _).mono ?_; rintro e w5 ⟨rfl, hw5⟩; have hw5 := hw5.symm; subst hw5)
              go_ret2
              exact VRet.bad HF.out HVx.out.below
      · have e34 : (((s[j]).toNat : Int) == 34) = false := by simp; omega
        have HBt : Hid (Byt B wr [] (.slice none 0 0) wr) := Lib.hid ⟨World.ownsRow_nil _ _ _ _, Below.refl _ _, by omega⟩
        have HNoB := Lib.hid (fun (h : bareS (s.data.toList.drop j) = none) => (show wordsS (s.data.toList.length + 1) [] s.data.toList = none by rw [HRr.out, ← HR2.out.eq, HD.out]; exact wordsS_nobare hb h35 h34 (by rw [← HD.out]; exact h)))
        have HVb := Lib.hid (fun w' (h : Below B wr w') => HR2.out.kept (hB ▸ h))
        clear hB
        go_upto_block 6 with fail
        go_cut [5, 6] (fun s5 s6 wx => ∃ (k : Nat) (acc : List UInt8) (v6 : Value), s5 = .int .i64 k ∧ v6 = s6 ∧ j < k ∧ k ≤ s.size ∧ Hid (Byt B wr acc v6 wx) ∧ Hid (acc = (s.data.toList.drop j).take (k - j)) ∧ Hid (bareS (s.data.toList.drop j) = some (k - j)))
        case first =>
          go_wp2
          go_loopg [5, 6] (s.size - j) (fun g2 s5 s6 wx => ∃ (p : Nat) (acc : List UInt8) (v6 : Value), p + g2 = s.size ∧ s5 = .int .i64 p ∧ v6 = s6 ∧ j ≤ p ∧ Hid (Byt B wr acc v6 wx) ∧ Hid (acc = (s.data.toList.drop j).take (p - j)) ∧ Hid (bareS (s.data.toList.drop j) = (bareS (s.data.toList.drop p)).map (· + (p - j))))
          case atStart => exact ⟨j, [], _, by omega, rfl, rfl, Nat.le_refl _, HBt, Lib.hid (by simp), Lib.hid (by simp)⟩
          case round =>
            obtain ⟨p, acc, v6, hpg, rfl, rfl, hjp, HQ, HA, HE⟩ := hrel
            have hstop : (∀ hp : p < s.size, stopS s[p] = true → bareS (s.data.toList.drop j) = some (p - j)) ∧ ((∀ hp : p < s.size, stopS s[p] = true) → j < p) := by
              refine ⟨fun hp h => ?_, fun h => ?_⟩
              · rw [HE.out, drop_at s p hp]
                unfold bareS
                rw [if_pos h]; simp
              · rcases Nat.eq_or_lt_of_le hjp with h2 | h2
                · subst h2
                  exfalso
                  have h := h hj
                  have : s[j] ≠ 35 := fun e => h35 (by rw [e]; rfl)
                  unfold stopS at h
                  simp [hb, this] at h
                · exact h2
            have HSt := Lib.hid hstop
            clear hstop
            by_cases hp : p < s.size
            case neg =>
              have d0 : ¬ (p : Int) < (s.size : Int) := by omega
              have HF := Lib.hid (show bareS (s.data.toList.drop j) = some (p - j) by rw [HE.out, drop_end s p (by omega)]; simp [bareS])
              have hjp2 : j < p := by omega
              go_wp2
              go_meet
              exact ⟨p, acc, _, rfl, rfl, hjp2, by omega, HQ, HA, HF⟩
            case pos =>
            have d1 : (p : Int) < (s.size : Int) := by omega
            have d8 : (0 : Int) ≤ (p : Int) := by omega
            have HDp := Lib.hid (drop_at s p hp)
            have HBk := Lib.hid (fun w => rblank_any s[p] w)
            cases hbk : blkS s[p] with
            | true =>
              rw [hbk] at HBk
              have hs1 : stopS s[p] = true := by unfold stopS; rw [hbk]; rfl
              have HF := Lib.hid (HSt.out.1 hp hs1)
              have hjp2 := HSt.out.2 (fun _ => hs1)
              clear hs1
              go_wp2_with (go_at_call 84; refine (HBk.out _).mono ?_; rintro e w5 ⟨rfl, hw5⟩; have hw5 := hw5.symm; subst hw5)
              go_meet
              exact ⟨p, acc, _, rfl, rfl, hjp2, by omega, HQ, HA, HF⟩
            | false =>
              rw [hbk] at HBk
              by_cases hk5 : (s[p]).toNat = 35
              · have e5 : (((s[p]).toNat : Int) != 35) = false := by simp; omega
                have HB5 : Hid (∀ w, Calls Tryz.prog 84 #[.int .u8 35] w fun e w' => e = .returned (.bool false) ∧ w' = w) := Lib.hid (fun w => by
                  have := HBk.out w
                  rwa [hk5] at this)
                have hs1 : stopS s[p] = true := by
                  have : s[p] = 35 := UInt8.toNat_inj.1 hk5
                  rw [this]; decide
                have HF := Lib.hid (HSt.out.1 hp hs1)
                have hjp2 := HSt.out.2 (fun _ => hs1)
                clear hs1
                go_wp2_with (go_at_call 84; refine (HB5.out _).mono ?_; rintro e w5 ⟨rfl, hw5⟩; have hw5 := hw5.symm; subst hw5)
                go_meet
                exact ⟨p, acc, _, rfl, rfl, hjp2, by omega, HQ, HA, HF⟩
              have e5 : (((s[p]).toNat : Int) != 35) = true := by simp; omega
              have hns : stopS s[p] = false := by
                have : s[p] ≠ 35 := fun e => hk5 (by rw [e]; rfl)
                unfold stopS
                simp [hbk, this]
              have HNS := Lib.hid hns
              clear hns
              by_cases hk4 : (s[p]).toNat = 34
              · have e4 : (((s[p]).toNat : Int) == 34) = true := by simp; omega
                have HB4 : Hid (∀ w, Calls Tryz.prog 84 #[.int .u8 34] w fun e w' => e = .returned (.bool false) ∧ w' = w) := Lib.hid (fun w => by
                  have := HBk.out w
                  rwa [hk4] at this)
                have HF := Lib.hid (HNoB.out (by
                  rw [HE.out, HDp.out]
                  unfold bareS
                  rw [if_neg (by simp [HNS.out]), if_pos hk4]; rfl))
                have HVx := Lib.hid (HVb.out _ HQ.out.below)
                go_wp2_with (go_at_call 84; refine (HB4.out _).mono ?_; rintro e w5 ⟨rfl, hw5⟩; have hw5 := hw5.symm; subst hw5)
                go_ret2
                exact VRet.bad HF.out HVx.out.below
              · have e4 : (((s[p]).toNat : Int) == 34) = false := by simp; omega
                have hal : acc.length ≤ s.size := by
                  rw [HA.out, List.length_take, List.length_drop, ← HSZ.out]; omega
                have HA2 := Lib.hid (show acc ++ [s[p]] = (s.data.toList.drop j).take (p + 1 - j) by rw [HA.out]; exact take_next s j p hp hjp)
                have HE2 := Lib.hid (show bareS (s.data.toList.drop j) = (bareS (s.data.toList.drop (p + 1))).map (· + (p + 1 - j)) by
                  rw [HE.out, HDp.out]
                  conv => lhs; unfold bareS
                  rw [if_neg (by simp [HNS.out]), if_neg hk4]
                  cases bareS (s.data.toList.drop (p + 1)) with
                  | none => rfl
                  | some q => simp; omega)
                cases gk with
                | zero => omega
                | succ g2 =>
                go_wp2_with (first
                  | (go_at_call 84; refine (HBk.out _).mono ?_; rintro e w5 ⟨rfl, hw5⟩; have hw5 := hw5.symm; subst hw5)
                  | (at_builtin; go_loud (refine wpList_append_own _ rfl _ _ 102 rfl B 5 i5 (.int .u8 0) 1 1 Tryz.underlying102 hi5 hz50 hz51 hz52 rfl (by decide) _ _ _ rfl (HQ.out.own.alloc _) ⟨wr.heap.size, 0, none⟩ 1 1 [.int .u8 (s[p]).toNat] rfl rfl (cell_one_new _ _ _) (fun u hu => by simp at hu; subst hu; rfl) (by unfold maxLen; omega) (by omega) (by have := HQ.out.le; simp; omega) ?_; intro v' w3 hown' hgrow' hnil'; have HO := Lib.hid hown'; have HG := Lib.hid hgrow'; clear hown' hgrow' hnil')))
                go_roundg g2
                case measure => omega
                case rel => exact ⟨p + 1, _, _, by omega, by simp, rfl, by omega, Lib.hid (HQ.out.next rfl HO.out HG.out), HA2, HE2⟩
        case rest =>
          obtain ⟨k, acc, v6, rfl, rfl, hjk, hks, HQ, HA, HE⟩ := hcut
          have HVx := Lib.hid (HVb.out _ HQ.out.below)
          have hcv := conv_own HQ.out.own
          have HW := Lib.hid (show wordsS (F2 + 1) ws (s.data.toList.drop j) = wordsS F2 (ws ++ [acc]) (s.data.toList.drop k) by
            have h := HE.out
            rw [HD.out] at h
            rw [HD.out, wordsS_bare hb h35 h34 h, ← HD.out, ← HA.out, List.drop_drop, show j + (k - j) = k by omega])
          go_wp2_with (at_builtin; go_loud (refine wpList_append_own _ rfl _ _ 106 rfl w.heap.size 9 i0 (.string ⟨#[]⟩) 1 16 Tryz.underlying106 hi0 hz0 hz1 hz2 rfl (by decide) _ _ _ rfl (HVx.out.own.alloc _) ⟨wc.heap.size, 0, none⟩ 1 1 [.string ⟨acc.toArray⟩] rfl rfl (cell_one_new _ _ _) (fun u hu => by simp at hu; subst hu; rfl) (by unfold maxLen; omega) (by omega) (by have := HVx.out.below.size; simp; omega) ?_; intro v' w3 hown' hgrow' hnil'; have HO := Lib.hid hown'; have HG := Lib.hid hgrow'; clear hown' hgrow' hnil'))
          go_roundg (s.size + 1 - k)
          case measure => omega
          case rel => exact ⟨k, F2, ws ++ [acc], _, rfl, rfl, by omega, by omega, by omega, Lib.hid (HVx.out.next (by omega) HW.out HO.out HG.out)⟩
end Go.Proofs.Sr
