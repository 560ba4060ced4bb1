/- options: the document's Words. -/
import Derived.Test.YtbegpgheikibjaaGreatDoorPrCwC
import Derived.Test.YtbegpgheikibjaaGreatDoorPrCwD
namespace Go.Proofs.Cw
open Go Go.RowKit Go.Proofs.Sa Go.Pl
theorem refL_end {g : Nat} {ws : List (List UInt8)} : refL (g + 1) ws [] = some ws := rfl
theorem refL_nl {g : Nat} {ws : List (List UInt8)} {c : UInt8} {r : List UInt8} (h : c.toNat = 10) : refL (g + 1) ws (c :: r) = none := by
  unfold refL; rw [if_pos h]
theorem refL_blank {g : Nat} {ws : List (List UInt8)} {c : UInt8} {r : List UInt8} (h : c.toNat ≠ 10) (h1 : blkW c = true) : refL (g + 1) ws (c :: r) = refL g ws r := by
  conv => lhs; unfold refL
  rw [if_neg h, if_pos h1]
theorem refL_hash {g : Nat} {ws : List (List UInt8)} {c : UInt8} {r : List UInt8} (h : c.toNat ≠ 10) (h1 : blkW c = false) (h2 : c.toNat = 35) : refL (g + 1) ws (c :: r) = if (10 : UInt8) ∈ r then none else some ws := by
  conv => lhs; unfold refL
  rw [if_neg h, if_neg (by simp [h1]), if_pos h2]
theorem refL_quo {g : Nat} {ws : List (List UInt8)} {c : UInt8} {r : List UInt8} (h : c.toNat ≠ 10) (h1 : blkW c = false) (h2 : c.toNat = 34) {x y : List UInt8} (hq : quoL [] r = some (x, y)) : refL (g + 1) ws (c :: r) = refL g (ws ++ [x]) y := by
  conv => lhs; unfold refL
  rw [if_neg h, if_neg (by simp [h1]), if_neg (by omega), if_pos h2, hq]
theorem refL_noquo {g : Nat} {ws : List (List UInt8)} {c : UInt8} {r : List UInt8} (h : c.toNat ≠ 10) (h1 : blkW c = false) (h2 : c.toNat = 34) (hq : quoL [] r = none) : refL (g + 1) ws (c :: r) = none := by
  conv => lhs; unfold refL
  rw [if_neg h, if_neg (by simp [h1]), if_neg (by omega), if_pos h2, hq]
theorem refL_bare {g : Nat} {ws : List (List UInt8)} {c : UInt8} {r : List UInt8} (h : c.toNat ≠ 10) (h1 : blkW c = false) (h2 : c.toNat ≠ 35) (h3 : c.toNat ≠ 34) {n : Nat} (hn : bareN (c :: r) = some n) : refL (g + 1) ws (c :: r) = refL g (ws ++ [(c :: r).take n]) ((c :: r).drop n) := by
  conv => lhs; unfold refL
  rw [if_neg h, if_neg (by simp [h1]), if_neg h2, if_neg h3, hn]
theorem refL_nobare {g : Nat} {ws : List (List UInt8)} {c : UInt8} {r : List UInt8} (h : c.toNat ≠ 10) (h1 : blkW c = false) (h2 : c.toNat ≠ 35) (h3 : c.toNat ≠ 34) (hn : bareN (c :: r) = none) : refL (g + 1) ws (c :: r) = none := by
  conv => lhs; unfold refL
  rw [if_neg h, if_neg (by simp [h1]), if_neg h2, if_neg h3, hn]
/-- What holds ahead of a round. -/
structure Vst (w : World) (r : Option (List (List UInt8))) (g : Nat) (l : List UInt8) (i : Nat) (ws : List (List UInt8)) (v : Value) (wx : World) : Prop where
  own : wx.ownsRow w.heap.size 9 1 v ws.length (wordsV ws)
  below : Below w.heap.size w wx
  eq : refL g ws (l.drop i) = r
  len : ws.length ≤ i
theorem Vst.kept {w : World} {r : Option (List (List UInt8))} {g i : Nat} {t : List UInt8} {ws : List (List UInt8)} {v : Value} {wx w' : World} (h : Vst w r g t i ws v wx) (hb : Below wx.heap.size wx w') : Vst w r g t i ws v w' :=
  ⟨own_below h.own hb, below_step h.below hb, h.eq, h.len⟩
theorem Vst.next {w : World} {r : Option (List (List UInt8))} {g g' i j : Nat} {l x : List UInt8} {ws : List (List UInt8)} {v v' : Value} {wx w3 : World} {o : Obj} (h : Vst w r g l i ws v wx) (hl : i < j) (he : refL g ws (l.drop i) = refL g' (ws ++ [x]) (l.drop j))
    (hown : w3.ownsRow w.heap.size 9 1 v' (ws.length + 1) (wordsV ws ++ [strV x])) (hg : (wx.alloc o).grownBy w3 v.ownBlock) : Vst w r g' l j (ws ++ [x]) v' w3 :=
  ⟨by
    have : wordsV (ws ++ [x]) = wordsV ws ++ [strV x] := by simp [wordsV]
    rw [this, List.length_append]; exact hown, (h.below.alloc h.below.size o).grown hg (by have := h.below.size; simp; omega) (fun k hk => (h.own.lt k hk).1), he.symm.trans h.eq, by have := h.len; simp; omega⟩
theorem piece_list (s : ByteArray) (i k : Nat) : (s.extract i k).data.toList = (s.data.toList.drop i).take (k - i) := Lib.extract_data s i k
set_option maxRecDepth 1000000 in
set_option maxHeartbeats 3200000 in
theorem rwords_any (s : ByteArray) (w : World) : Calls Tryz.prog 18 #[.string s] w (WRet s.data.toList w) := by
  have HSZ := Lib.hid (Lib.size_eq s)
  by_cases hL : 1024 < s.size
  · have c0 : (1024 : Int) < (s.size : Int) := by omega
    have HF := Lib.hid (wordsR_long (l := s.data.toList) (by have := HSZ.out; omega))
    go_enter Tryz.func18, Tryz.ntmps18
    go_wp2
    go_ret2
    exact WRet.bad HF.out (Below.refl _ _)
  have c0 : ¬ (1024 : Int) < (s.size : Int) := by omega
  have HW := Lib.hid (wordsR_short (l := s.data.toList) (by have := HSZ.out; omega))
  obtain ⟨i0, hi0, hz0, hz1, hz2⟩ := info_parts info9
  generalize hR : wordsR s.data.toList = R at *
  have HS0 : Hid (Vst w R (s.size + 1) s.data.toList 0 [] (.slice none 0 0) w) := Lib.hid ⟨World.ownsRow_nil _ _ _ _, Below.refl _ _, by rw [HW.out, ← HSZ.out]; rfl, Nat.le_refl _⟩
  have HR2 := Lib.hid hR
  clear hR
  go_enter Tryz.func18, Tryz.ntmps18
  go_wp2
  go_loopg [4, 5] (s.size + 1) (fun g s4 s5 wx => ∃ (i : Nat) (ws : List (List UInt8)) (v : Value), i ≤ s.size ∧ s.size < i + g ∧ v = s4 ∧ s5 = .int .i64 i ∧ Hid (Vst w R g s.data.toList i ws v wx))
  case atStart => exact ⟨0, [], _, by omega, by omega, rfl, rfl, HS0⟩
  case round =>
    obtain ⟨i, ws, v, his, hig, rfl, rfl, HR⟩ := hrel
    have hwl : ws.length ≤ i := HR.out.len
    cases gk with
    | zero => omega
    | succ g =>
      by_cases hi : i < s.size
      · have c1 : (i : Int) < (s.size : Int) := by omega
        have HD := Lib.hid (drop_at s i hi)
        have HE : Hid (∀ o, refL (g + 1) ws (s[i] :: s.data.toList.drop (i + 1)) = o → R = o) := Lib.hid fun o h => by rw [← HR.out.eq, HD.out]; exact h
        by_cases h10 : (s[i]).toNat = 10
        · have c2 : (((s[i]).toNat : Int) == 10) = true := by simp; omega
          have HF := Lib.hid (HR2.out.trans (HE.out _ (refL_nl h10)))
          go_wp2
          go_ret2
          exact WRet.bad HF.out HR.out.below
        have c2 : (((s[i]).toNat : Int) == 10) = false := by simp; omega
        by_cases hb : blkW s[i] = true
        · have HN : Hid (Vst w R g s.data.toList (i + 1) ws v wr) := Lib.hid ⟨HR.out.own, HR.out.below, (HE.out _ (refL_blank h10 hb)).symm, by omega⟩
          go_wp2_with (go_at_call 44; refine (rblank_any _ _).mono ?_; rintro e w5 ⟨rfl, hw5⟩; have hw5 := hw5.symm; subst hw5)
          go_roundg g
          case measure => omega
          case rel => exact ⟨i + 1, ws, v, by omega, by omega, rfl, by first | (simp; done) | (simp; omega), HN⟩
        have hb : blkW s[i] = false := by simpa using hb
        by_cases h35 : (s[i]).toNat = 35
        · have c3 : (((s[i]).toNat : Int) == 35) = true := by simp; omega
          have HBl : Hid (Calls Tryz.prog 44 #[.int .u8 35] wr fun e w' => e = .returned (.bool false) ∧ w' = wr) := Lib.hid (by have := rblank_any s[i] wr; rw [h35, hb] at this; exact this)
          have HH := Lib.hid (HE.out _ (refL_hash h10 hb h35))
          have HI0 : Hid ((10 : UInt8) ∈ s.data.toList.drop i ↔ (10 : UInt8) ∈ s.data.toList.drop (i + 1)) := Lib.hid (by
            rw [HD.out, List.mem_cons]
            exact ⟨fun h => h.resolve_left (fun e => by rw [← e] at h10; exact h10 rfl), .inr⟩)
          go_wp2_with (go_at_call 44; refine HBl.out.mono ?_; rintro e w5 ⟨rfl, hw5⟩; have hw5 := hw5.symm; subst hw5)
          go_loopg [5] (s.size - i) (fun g2 s5 wx => ∃ j : Nat, j + g2 = s.size ∧ s5 = .int .i64 j ∧ wx = wr ∧ Hid ((10 : UInt8) ∈ s.data.toList.drop j ↔ (10 : UInt8) ∈ s.data.toList.drop (i + 1)))
          case atStart => exact ⟨i, by omega, rfl, rfl, HI0⟩
          case round =>
            obtain ⟨j, hjg, rfl, hwx, HJ⟩ := hrel
            subst hwx
            cases gk with
            | zero =>
              have c4 : ¬ (j : Int) < (s.size : Int) := by omega
              have HF := Lib.hid (show wordsR s.data.toList = some ws by
                rw [HR2.out, HH.out, if_neg (fun h => by have := HJ.out.2 h; rw [drop_end s j (by omega)] at this; cases this)])
              go_wp2
              go_ret2
              exact WRet.good HF.out HR.out.own HR.out.below
            | succ g3 =>
              have hj : j < s.size := by omega
              have c4 : (j : Int) < (s.size : Int) := by omega
              have HDJ := Lib.hid (drop_at s j hj)
              by_cases hj10 : (s[j]).toNat = 10
              · have c5 : (((s[j]).toNat : Int) == 10) = true := by simp; omega
                have HF := Lib.hid (show wordsR s.data.toList = none by
                  rw [HR2.out, HH.out, if_pos (HJ.out.1 (by rw [HDJ.out, ten_of hj10]; exact List.mem_cons_self ..))])
                go_wp2
                go_ret2
                exact WRet.bad HF.out HR.out.below
              have c5 : (((s[j]).toNat : Int) == 10) = false := by simp; omega
              have HN : Hid ((10 : UInt8) ∈ s.data.toList.drop (j + 1) ↔ (10 : UInt8) ∈ s.data.toList.drop (i + 1)) := Lib.hid (by
                rw [← HJ.out, HDJ.out, List.mem_cons]
                exact ⟨.inr, fun h => h.resolve_left (fun e => by rw [← e] at hj10; exact hj10 rfl)⟩)
              go_wp2
              go_roundg g3
              case measure => omega
              case rel => exact ⟨j + 1, by omega, by first | (simp; done) | (simp; omega), rfl, HN⟩
        have c3 : (((s[i]).toNat : Int) == 35) = false := by simp; omega
        by_cases h34 : (s[i]).toNat = 34
        · have c4 : (((s[i]).toNat : Int) == 34) = true := by simp; omega
          have HQ := Lib.hid (rquoted_any s i (by omega) hi wr)
          have HBl : Hid (Calls Tryz.prog 44 #[.int .u8 34] wr fun e w' => e = .returned (.bool false) ∧ w' = wr) := Lib.hid (by have := rblank_any s[i] wr; rw [h34, hb] at this; exact this)
          cases hq : quoL [] (s.data.toList.drop (i + 1)) with
          | none =>
            have HF := Lib.hid (HR2.out.trans (HE.out _ (refL_noquo h10 hb h34 hq)))
            have HN := Lib.hid hq
            clear hq
            go_wp2_with (first
              | (go_at_call 44; refine HBl.out.mono ?_; rintro e w5 ⟨rfl, hw5⟩; have hw5 := hw5.symm; subst hw5)
              | (go_at_call 45; refine HQ.out.mono ?_; rintro e w2 ⟨qa, qk, ok, rfl, hg, hg2, hb2⟩; obtain rfl : ok = false := hg2 HN.out))
            go_ret2
            exact WRet.bad HF.out (below_step HR.out.below hb2)
          | some xy =>
            obtain ⟨x, y⟩ := xy
            have HE2 := Lib.hid (HE.out _ (refL_quo h10 hb h34 hq))
            have HY := Lib.hid (quoL_spec (s.data.toList.drop (i + 1)).length _ [] x y (Nat.le_refl _) hq).1
            have HN := Lib.hid hq
            clear hq
            go_wp2_with (first
              | (go_at_call 44; refine HBl.out.mono ?_; rintro e w5 ⟨rfl, hw5⟩; have hw5 := hw5.symm; subst hw5)
              | (go_at_call 45; refine HQ.out.mono ?_; rintro e w2 ⟨qa, qk, ok, rfl, hg, hg2, hb2⟩; obtain ⟨rfl, hqa, j, rfl, hqb, hjs⟩ := hg x y HN.out; have HA := Lib.hid hqa; have HB := Lib.hid hqb; have HR3 := Lib.hid (HR.out.kept hb2); clear hg hg2 hqa hqb)
              | (at_builtin; refine wpList_append_own _ rfl _ _ 36 rfl w.heap.size 9 i0 (.string ⟨#[]⟩) 1 16 Tryz.underlying36 hi0 hz0 hz1 hz2 rfl (by decide) _ _ _ rfl (HR3.out.own.alloc _) ⟨w2.heap.size, 0, none⟩ 1 1 [.string qa] rfl rfl (cell_one_new _ _ _) (fun u hu => by simp at hu; subst hu; rfl) (by unfold maxLen; omega) (by omega) (by have := HR3.out.below.size; simp; omega) ?_; intro v' w3 hown' hgrow' hnil'))
            have hij : i + 1 < j := by
              have := HY.out
              rw [HB.out, List.length_drop, List.length_drop, ← HSZ.out] at this
              omega
            go_roundg g
            case measure => omega
            case rel => exact ⟨j, _, _, by omega, by omega, rfl, by first | rfl | (simp; done) | (simp; omega), Lib.hid (HR3.out.next (by omega) (by rw [HR3.out.eq, HE2.out, HB.out]) (by rw [← strV_of HA.out]; exact hown') hgrow')⟩
        have c4 : (((s[i]).toNat : Int) == 34) = false := by simp; omega
        go_upto_block 4 with (go_at_call 44; refine (rblank_any _ _).mono ?_; rintro e w5 ⟨rfl, hw5⟩; have hw5 := hw5.symm; subst hw5)
        go_cut [10] (fun s10 wx => ∃ k : Nat, s10 = .int .i64 k ∧ wx = wr ∧ i ≤ k ∧ k ≤ s.size ∧ bareN (s.data.toList.drop i) = some (k - i))
        case first =>
          go_wp2
          go_loopg [10] (s.size - i) (fun g2 s10 wx => ∃ k : Nat, k + g2 = s.size ∧ s10 = .int .i64 k ∧ wx = wr ∧ i ≤ k ∧ Hid (bareN (s.data.toList.drop i) = (bareN (s.data.toList.drop k)).map (· + (k - i))))
          case atStart => exact ⟨i, by omega, rfl, rfl, Nat.le_refl _, Lib.hid (by simp)⟩
          case round =>
            obtain ⟨k, hkg, rfl, hwx, hik, HB⟩ := hrel
            subst hwx
            by_cases hk : k < s.size
            · have c5 : (k : Int) < (s.size : Int) := by omega
              have hd := drop_at s k hk
              by_cases hx : blkW s[k] = true
              · have HF := Lib.hid (show bareN (s.data.toList.drop i) = some (k - i) by rw [HB.out, hd, bareN_blank hx]; simp)
                clear hd
                go_wp2_with (go_at_call 44; refine (rblank_any _ _).mono ?_; rintro e w5 ⟨rfl, hw5⟩; have hw5 := hw5.symm; subst hw5)
                go_meet
                exact ⟨k, rfl, rfl, hik, Nat.le_of_lt hk, HF.out⟩
              have hx : blkW s[k] = false := by simpa using hx
              have HX := Lib.hid (show bareN (s.data.toList.drop k) = none → wordsR s.data.toList = none from fun h => by
                have hb0 : bareN (s.data.toList.drop i) = none := by rw [HB.out, h]; rfl
                exact HR2.out.trans (HE.out _ (refL_nobare h10 hb h35 h34 (by rw [← HD.out]; exact hb0))))
              by_cases h33 : (s[k]).toNat < 33
              · have HF := Lib.hid (HX.out (by rw [hd]; exact bareN_bad hx (.inl h33)))
                have c6 : ((s[k]).toNat : Int) < 33 := by omega
                clear hd
                go_wp2_with (go_at_call 44; refine (rblank_any _ _).mono ?_; rintro e w5 ⟨rfl, hw5⟩; have hw5 := hw5.symm; subst hw5)
                go_ret2
                exact WRet.bad HF.out HR.out.below
              have c6 : ¬ ((s[k]).toNat : Int) < 33 := by omega
              by_cases h342 : (s[k]).toNat = 34
              · have HF := Lib.hid (HX.out (by rw [hd]; exact bareN_bad hx (.inr h342)))
                have c7 : (((s[k]).toNat : Int) == 34) = true := by simp; omega
                have HBl : Hid (Calls Tryz.prog 44 #[.int .u8 34] wr fun e w' => e = .returned (.bool false) ∧ w' = wr) := Lib.hid (by have := rblank_any s[k] wr; rw [h342, hx] at this; exact this)
                clear hd
                go_wp2_with (go_at_call 44; refine HBl.out.mono ?_; rintro e w5 ⟨rfl, hw5⟩; have hw5 := hw5.symm; subst hw5)
                go_ret2
                exact WRet.bad HF.out HR.out.below
              have c7 : (((s[k]).toNat : Int) == 34) = false := by simp; omega
              have HN := Lib.hid (show bareN (s.data.toList.drop i) = (bareN (s.data.toList.drop (k + 1))).map (· + (k + 1 - i)) by
                rw [HB.out, hd, bareN_step hx (by omega)]
                cases bareN (s.data.toList.drop (k + 1)) with
                | none => rfl
                | some q => simp; omega)
              clear hd
              cases gk with
              | zero => omega
              | succ g3 =>
                go_wp2_with (go_at_call 44; refine (rblank_any _ _).mono ?_; rintro e w5 ⟨rfl, hw5⟩; have hw5 := hw5.symm; subst hw5)
                go_roundg g3
                case measure => omega
                case rel => exact ⟨k + 1, by omega, by first | (simp; done) | (simp; omega), rfl, by omega, HN⟩
            · have c5 : ¬ (k : Int) < (s.size : Int) := by omega
              have HF := Lib.hid (show bareN (s.data.toList.drop i) = some (k - i) by rw [HB.out, drop_end s k (by omega)]; simp [bareN])
              go_wp2
              go_meet
              exact ⟨k, rfl, rfl, hik, by omega, HF.out⟩
        case rest =>
          obtain ⟨k, rfl, hwx, hik, hks, hbn⟩ := hcut
          have hwx := hwx.symm
          subst hwx
          have HP := Lib.hid (bareN_pos (HD.out ▸ hbn : bareN (s[i] :: s.data.toList.drop (i + 1)) = some (k - i)) hb)
          have HE2 := Lib.hid (HE.out _ (refL_bare h10 hb h35 h34 (HD.out ▸ hbn)))
          have c5 : (k : Int) ≤ (s.size : Int) := by omega
          have c6 : (i : Int) ≤ (k : Int) := by omega
          clear hbn
          go_wp2_with (at_builtin; refine wpList_append_own _ rfl _ _ 36 rfl w.heap.size 9 i0 (.string ⟨#[]⟩) 1 16 Tryz.underlying36 hi0 hz0 hz1 hz2 rfl (by decide) _ _ _ rfl (HR.out.own.alloc _) ⟨wr.heap.size, 0, none⟩ 1 1 [.string (s.extract i k)] rfl rfl (cell_one_new _ _ _) (fun u hu => by simp at hu; subst hu; rfl) (by unfold maxLen; omega) (by omega) (by have := HR.out.below.size; simp; omega) ?_; intro v' w3 hown' hgrow' hnil')
          go_roundg g
          case measure => omega
          case rel => exact ⟨k, _, _, hks, by have := HP.out; omega, rfl, by first | rfl | (simp; done) | (simp; omega), Lib.hid (HR.out.next (x := (s.data.toList.drop i).take (k - i)) (by have := HP.out; omega) (by rw [HR.out.eq, HE2.out, ← HD.out, List.drop_drop, Nat.add_sub_cancel' hik]) (by rw [← strV_of (piece_list s i k)]; exact hown') hgrow')⟩
      · have c1 : ¬ (i : Int) < (s.size : Int) := by omega
        have HF := Lib.hid (show wordsR s.data.toList = some ws by rw [HR2.out, ← HR.out.eq, drop_end s i (by omega)]; rfl)
        go_wp2
        go_ret2
        exact WRet.good HF.out HR.out.own HR.out.below
end Go.Proofs.Cw
