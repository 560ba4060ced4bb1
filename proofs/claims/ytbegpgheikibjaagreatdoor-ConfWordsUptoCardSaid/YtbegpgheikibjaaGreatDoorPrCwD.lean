/- options: the program's Words. -/
import Derived.Maps.AppendAt
import Derived.OwnWalk
import Derived.Deep.AppendLies
import Derived.Deep.RegionLaw
import Derived.Deep.CutBlock
import Derived.Deep.DeepCutAuto
import Derived.Lib.IndexLaws
import Derived.Test.YtbegpgheikibjaaGreatDoorPrCwB
namespace Go.Proofs.Cw
open Go Go.RowKit Go.Proofs.Sa Go.Pl
theorem info9 : (Tryz.prog.info? 9).map (fun i => (i.zero, i.size, i.bytes)) = some (some (.string ⟨#[]⟩), 1, 16) := by kernel_rfl
def strV (l : List UInt8) : Value := .string ⟨l.toArray⟩
def wordsV (ws : List (List UInt8)) : List Value := ws.map strV
theorem strV_of {t : ByteArray} {l : List UInt8} (h : t.data.toList = l) : Value.string t = strV l := by
  subst h; rfl
/-- What Words answers, either side. -/
def WRet (l : List UInt8) (w : World) (e : Ending) (w' : World) : Prop :=
  ∃ v k, e = .returned (.tuple #[v, .int .i64 k]) ∧ w'.ownsRow w.heap.size 9 1 v ((wordsR l).getD []).length (wordsV ((wordsR l).getD [])) ∧ k = (if (wordsR l).isSome then 0 else 50) ∧ Below w.heap.size w w'
theorem WRet.bad {l : List UInt8} {w w' : World} (h : wordsR l = none) (hb : Below w.heap.size w w') : WRet l w (.returned (.tuple #[.slice none 0 0, .int .i64 50])) w' :=
  ⟨_, _, rfl, by rw [h]; exact World.ownsRow_nil _ _ _ _, by rw [h]; rfl, hb⟩
theorem WRet.good {l : List UInt8} {w w' : World} {ws : List (List UInt8)} {v : Value} (h : wordsR l = some ws) (ho : w'.ownsRow w.heap.size 9 1 v ws.length (wordsV ws)) (hb : Below w.heap.size w w') : WRet l w (.returned (.tuple #[v, .int .i64 0])) w' :=
  ⟨_, _, rfl, by rw [h]; exact ho, by rw [h]; rfl, hb⟩
/-- What holds ahead of a round. -/
structure Wst (w : World) (r : Option (List (List UInt8))) (g : Nat) (t : List UInt8) (ws : List (List UInt8)) (v : Value) (wx : World) : Prop where
  own : wx.ownsRow w.heap.size 9 1 v ws.length (wordsV ws)
  below : Below w.heap.size w wx
  eq : wordsL g ws t = r
  len : ws.length + t.length ≤ 1024
theorem Wst.kept {w : World} {r : Option (List (List UInt8))} {g : Nat} {t : List UInt8} {ws : List (List UInt8)} {v : Value} {wx w' : World} (h : Wst w r g t ws v wx) (hb : Below wx.heap.size wx w') : Wst w r g t ws v w' :=
  ⟨own_below h.own hb, below_step h.below hb, h.eq, h.len⟩
theorem Wst.next {w : World} {r : Option (List (List UInt8))} {g g' : Nat} {t t' x : List UInt8} {ws : List (List UInt8)} {v v' : Value} {wx w3 : World} {o : Obj} (h : Wst w r g t ws v wx) (hl : t'.length + 1 ≤ t.length) (he : wordsL g ws t = wordsL g' (ws ++ [x]) t')
    (hown : w3.ownsRow w.heap.size 9 1 v' (ws.length + 1) (wordsV ws ++ [strV x])) (hg : (wx.alloc o).grownBy w3 v.ownBlock) : Wst w r g' t' (ws ++ [x]) v' w3 :=
  ⟨by
    have : wordsV (ws ++ [x]) = wordsV ws ++ [strV x] := by simp [wordsV]
    rw [this, List.length_append]; exact hown, (h.below.alloc h.below.size o).grown hg (by have := h.below.size; simp; omega) (fun k hk => (h.own.lt k hk).1), he.symm.trans h.eq, by have := h.len; simp; omega⟩
theorem tail_list (t : ByteArray) (c : UInt8) (r : List UInt8) (h : t.data.toList = c :: r) : (t.extract 1 t.size).data.toList = r := by rw [extract_drop, h]; rfl
theorem head_at (t : ByteArray) (c : UInt8) (r : List UInt8) (h : t.data.toList = c :: r) (h0 : 0 < t.size) : t[0] = c := by
  have := Lib.data_getElem? t 0 h0
  rw [h] at this
  simpa using this.symm
theorem index_ten (l : List UInt8) : (0 ≤ Lib.indexByte l 10 ∧ (10 : UInt8) ∈ l) ∨ (Lib.indexByte l 10 = -1 ∧ (10 : UInt8) ∉ l) := by
  by_cases h : Lib.indexByte l 10 = -1
  · exact .inr ⟨h, fun hm => by
      obtain ⟨k, hk⟩ := List.getElem?_of_mem hm
      exact Lib.indexByte_none h k hk⟩
  · have hge := Lib.indexByte_ge l 10
    have h0 : 0 ≤ Lib.indexByte l 10 := by omega
    obtain ⟨o, ho⟩ := Int.eq_ofNat_of_zero_le h0
    exact .inl ⟨h0, List.mem_of_getElem? (Lib.indexByte_some ho).1⟩
theorem wordsL_blank {g : Nat} {ws : List (List UInt8)} {c : UInt8} {r : List UInt8} (h : blkW c = true) : wordsL (g + 1) ws (c :: r) = wordsL g ws r := by
  conv => lhs; unfold wordsL
  rw [if_pos h]
theorem wordsL_hash {g : Nat} {ws : List (List UInt8)} {c : UInt8} {r : List UInt8} (h : blkW c = false) (h2 : c.toNat = 35) : wordsL (g + 1) ws (c :: r) = some ws := by
  unfold wordsL
  rw [if_neg (by simp [h]), if_pos h2]
theorem wordsL_quo {g : Nat} {ws : List (List UInt8)} {c : UInt8} {r : List UInt8} (h : blkW c = false) (h2 : c.toNat = 34) {x y : List UInt8} (hq : quoL [] r = some (x, y)) : wordsL (g + 1) ws (c :: r) = wordsL g (ws ++ [x]) y := by
  conv => lhs; unfold wordsL
  rw [if_neg (by simp [h]), if_neg (by omega), if_pos h2, hq]
theorem wordsL_noquo {g : Nat} {ws : List (List UInt8)} {c : UInt8} {r : List UInt8} (h : blkW c = false) (h2 : c.toNat = 34) (hq : quoL [] r = none) : wordsL (g + 1) ws (c :: r) = none := by
  conv => lhs; unfold wordsL
  rw [if_neg (by simp [h]), if_neg (by omega), if_pos h2, hq]
theorem wordsL_bare {g : Nat} {ws : List (List UInt8)} {c : UInt8} {r : List UInt8} (h : blkW c = false) (h2 : c.toNat ≠ 35) (h3 : c.toNat ≠ 34) {n : Nat} (hn : bareN (c :: r) = some n) : wordsL (g + 1) ws (c :: r) = wordsL g (ws ++ [(c :: r).take n]) ((c :: r).drop n) := by
  conv => lhs; unfold wordsL
  rw [if_neg (by simp [h]), if_neg h2, if_neg h3, hn]
theorem wordsL_nobare {g : Nat} {ws : List (List UInt8)} {c : UInt8} {r : List UInt8} (h : blkW c = false) (h2 : c.toNat ≠ 35) (h3 : c.toNat ≠ 34) (hn : bareN (c :: r) = none) : wordsL (g + 1) ws (c :: r) = none := by
  conv => lhs; unfold wordsL
  rw [if_neg (by simp [h]), if_neg h2, if_neg h3, hn]
theorem take_list (t : ByteArray) (n : Nat) : (t.extract 0 n).data.toList = t.data.toList.take n := Lib.extract_from_zero t n
theorem bare_loop_end {l : List UInt8} {n : Nat} (h : bareN l = (bareN (l.drop n)).map (· + n)) (h0 : bareN (l.drop n) = some 0) : bareN l = some n := by rw [h, h0]; simp
set_option maxRecDepth 1000000 in
set_option maxHeartbeats 3200000 in
theorem words_any (s : ByteArray) (w : World) : Calls Tryz.prog 17 #[.string s] w (WRet s.data.toList w) := by
  have HSZ := Lib.hid (Lib.size_eq s)
  by_cases hL : 1024 < s.size
  · have c0 : (1024 : Int) < (s.size : Int) := by omega
    have HF := Lib.hid (wordsR_long (l := s.data.toList) (by have := HSZ.out; omega))
    go_enter Tryz.func17, Tryz.ntmps17
    go_wp2
    go_ret2
    exact WRet.bad HF.out (Below.refl _ _)
  have c0 : ¬ (1024 : Int) < (s.size : Int) := by omega
  have HI := Lib.hid (Tryz.strings_IndexByte s 10 w)
  rcases index_ten s.data.toList with ⟨h0, h10⟩ | ⟨h0, h10⟩
  · have HF := Lib.hid (wordsR_ten h10)
    go_enter Tryz.func17, Tryz.ntmps17
    go_wp2_with (go_at_call 41; refine HI.out.mono ?_; rintro e w2 ⟨rfl, rfl⟩)
    go_ret2
    exact WRet.bad HF.out (Below.refl _ _)
  have HW := Lib.hid (wordsR_clean (l := s.data.toList) (by have := HSZ.out; omega) h10)
  obtain ⟨i0, hi0, hz0, hz1, hz2⟩ := info_parts info9
  generalize hR : wordsR s.data.toList = R at *
  have HS0 : Hid (Wst w R (s.size + 1) s.data.toList [] (.slice none 0 0) w) := Lib.hid ⟨World.ownsRow_nil _ _ _ _, Below.refl _ _, by rw [HW.out, ← HSZ.out], by have := HSZ.out; simp only [List.length_nil]; omega⟩
  have HR2 := Lib.hid hR
  clear hR
  go_enter Tryz.func17, Tryz.ntmps17
  go_wp2_with (go_at_call 41; refine HI.out.mono ?_; rintro e w2 ⟨rfl, hw2⟩; have hw2 := hw2.symm; subst hw2)
  go_loopg [0, 4] (s.size + 1) (fun g s0 s4 wx => ∃ (t : ByteArray) (ws : List (List UInt8)) (v : Value), t.size < g ∧ s0 = .string t ∧ v = s4 ∧ Hid (Wst w R g t.data.toList ws v wx))
  case atStart => exact ⟨s, [], _, by omega, rfl, rfl, HS0⟩
  case round =>
    obtain ⟨t, ws, v, htg, rfl, rfl, HR⟩ := hrel
    cases gk with
    | zero => omega
    | succ g =>
      cases hl : t.data.toList with
      | nil =>
        have ht0 : t.toList = [] := by rw [Lib.toList_data]; exact hl
        have HF := Lib.hid (show wordsR s.data.toList = some ws by rw [HR2.out, ← HR.out.eq, hl]; rfl)
        clear hl
        go_wp2
        go_ret2
        exact WRet.good HF.out HR.out.own HR.out.below
      | cons c r =>
        have HSZ2 := Lib.hid (show t.size = r.length + 1 by rw [Lib.size_eq, hl]; rfl)
        have ht0 : ¬ t.toList = [] := by rw [Lib.toList_data, hl]; simp
        have ht4 : t.toList.isEmpty = false := by rw [Lib.toList_data, hl]; rfl
        have ht2 : 0 < t.size := by have := HSZ2.out; omega
        have ht1 : (0 : Int) < (t.size : Int) := by omega
        have ht3 : (1 : Int) ≤ (t.size : Int) := by omega
        have hc := head_at t c r hl ht2
        have HL := Lib.hid hl
        have HT := Lib.hid (tail_list t c r hl)
        have HTS : Hid ((t.extract 1 t.size).size = r.length) := Lib.hid (by rw [Lib.size_eq, HT.out])
        clear hl
        by_cases hb : blkW c = true
        · have HE := Lib.hid (HL.out ▸ wordsL_blank (g := g) (ws := ws) (r := r) hb : wordsL (g + 1) ws t.data.toList = wordsL g ws r)
          go_wp2_with (go_at_call 42; refine (blank_any _ _).mono ?_; rintro e w5 ⟨rfl, hw5⟩; have hw5 := hw5.symm; subst hw5)
          go_roundg g
          case measure => omega
          case rel => exact ⟨_, ws, v, by rw [HTS.out]; have := HSZ2.out; omega, rfl, rfl, Lib.hid ⟨HR.out.own, HR.out.below, by rw [HT.out, ← HE.out]; exact HR.out.eq, by have := HR.out.len; rw [HL.out] at this; rw [HT.out]; simp at this; omega⟩⟩
        have hb : blkW c = false := by simpa using hb
        by_cases h35 : c.toNat = 35
        · have c1 : ((c.toNat : Int) == 35) = true := by simp; omega
          have HF := Lib.hid (show wordsR s.data.toList = some ws by rw [HR2.out, ← HR.out.eq, HL.out, wordsL_hash hb h35])
          have HBl : Hid (Calls Tryz.prog 42 #[.int .u8 35] wr fun e w' => e = .returned (.bool false) ∧ w' = wr) := Lib.hid (by have := blank_any c wr; rw [h35, hb] at this; exact this)
          go_wp2_with (go_at_call 42; refine HBl.out.mono ?_; rintro e w5 ⟨rfl, hw5⟩; have hw5 := hw5.symm; subst hw5)
          go_ret2
          exact WRet.good HF.out HR.out.own HR.out.below
        have c1 : ((c.toNat : Int) == 35) = false := by simp; omega
        by_cases h34 : c.toNat = 34
        · have c2 : ((c.toNat : Int) == 34) = true := by simp; omega
          have HQ := Lib.hid (quoted_any (t.extract 1 t.size) (by rw [HTS.out]; have := HSZ2.out; have h := HR.out.len; rw [← Lib.size_eq] at h; omega) wr)
          have HBl : Hid (Calls Tryz.prog 42 #[.int .u8 34] wr fun e w' => e = .returned (.bool false) ∧ w' = wr) := Lib.hid (by have := blank_any c wr; rw [h34, hb] at this; exact this)
          cases hq : quoL [] r with
          | none =>
            have HF := Lib.hid (show wordsR s.data.toList = none by rw [HR2.out, ← HR.out.eq, HL.out, wordsL_noquo hb h34 hq])
            have HN := Lib.hid hq
            clear hq
            go_wp2_with (first
              | (go_at_call 42; refine HBl.out.mono ?_; rintro e w5 ⟨rfl, hw5⟩; have hw5 := hw5.symm; subst hw5)
              | (go_at_call 43; refine HQ.out.mono ?_; rintro e w2 ⟨qa, qb, ok, rfl, hg, hb2⟩; obtain rfl : ok = false := hg.2 (by rw [HT.out]; exact HN.out)))
            go_ret2
            exact WRet.bad HF.out (below_step HR.out.below hb2)
          | some xy =>
            obtain ⟨x, y⟩ := xy
            have HE := Lib.hid (HL.out ▸ wordsL_quo (g := g) (ws := ws) hb h34 hq : wordsL (g + 1) ws t.data.toList = wordsL g (ws ++ [x]) y)
            have HY := Lib.hid (quoL_spec r.length r [] x y (Nat.le_refl _) hq).1
            have HN := Lib.hid hq
            have hwl : ws.length ≤ 1024 := by have := HR.out.len; omega
            clear hq
            go_wp2_with (first
              | (go_at_call 42; refine HBl.out.mono ?_; rintro e w5 ⟨rfl, hw5⟩; have hw5 := hw5.symm; subst hw5)
              | (go_at_call 43; refine HQ.out.mono ?_; rintro e w2 ⟨qa, qb, ok, rfl, hg, hb2⟩; obtain ⟨rfl, hqa, hqb⟩ := hg.1 x y (by rw [HT.out]; exact HN.out); have HA := Lib.hid hqa; have HB := Lib.hid hqb; have HR3 := Lib.hid (HR.out.kept hb2); clear hg hqa hqb)
              | (at_builtin; go_loud (refine wpList_append_own _ rfl _ _ 36 rfl w.heap.size 9 i0 (.string ⟨#[]⟩) 1 16 Tryz.underlying36 hi0 hz0 hz1 hz2 rfl (by decide) _ _ _ rfl (HR3.out.own.alloc _) ⟨w2.heap.size, 0, none⟩ 1 1 [.string qa] rfl rfl (cell_one_new _ _ _) (fun u hu => by simp at hu; subst hu; rfl) (by unfold maxLen; omega) (by omega) (by have := HR3.out.below.size; simp; omega) ?_; intro v' w3 hown' hgrow' hnil')))
            go_roundg g
            case measure => omega
            case rel => exact ⟨qb, _, _, by rw [Lib.size_eq, HB.out]; have := HSZ2.out; have := HY.out; omega, rfl, rfl, Lib.hid (HR3.out.next (by rw [HB.out, HL.out]; have := HY.out; simp; omega) (by rw [HB.out]; exact HE.out) (by rw [← strV_of HA.out]; exact hown') hgrow')⟩
        have c2 : ((c.toNat : Int) == 34) = false := by simp; omega
        have hwl : ws.length ≤ 1024 := by have := HR.out.len; omega
        have htl : t.size ≤ 1024 := by have := HR.out.len; rw [← Lib.size_eq] at this; omega
        go_upto_block 3 with (go_at_call 42; refine (blank_any _ _).mono ?_; rintro e w5 ⟨rfl, hw5⟩; have hw5 := hw5.symm; subst hw5)
        go_cut [9] (fun s9 wx => ∃ n : Nat, s9 = .int .i64 n ∧ wx = wr ∧ n ≤ t.size ∧ bareN t.data.toList = some n)
        case first =>
          go_wp2
          go_loopg [9] t.size (fun g2 s9 wx => ∃ n : Nat, n + g2 = t.size ∧ s9 = .int .i64 n ∧ wx = wr ∧ Hid (bareN t.data.toList = (bareN (t.data.toList.drop n)).map (· + n)))
          case atStart => exact ⟨0, by omega, rfl, rfl, Lib.hid (by simp)⟩
          case round =>
            obtain ⟨n, hng, rfl, hwx, HB⟩ := hrel
            subst hwx
            by_cases hn : n < t.size
            · have c3 : (n : Int) < (t.size : Int) := by omega
              have hd := drop_at t n hn
              by_cases hx : blkW t[n] = true
              · have HF := Lib.hid (bare_loop_end HB.out (by rw [hd]; exact bareN_blank hx))
                clear hd
                go_wp2_with (go_at_call 42; refine (blank_any _ _).mono ?_; rintro e w5 ⟨rfl, hw5⟩; have hw5 := hw5.symm; subst hw5)
                go_meet
                exact ⟨n, rfl, rfl, Nat.le_of_lt hn, HF.out⟩
              have hx : blkW t[n] = false := by simpa using hx
              have HX := Lib.hid (show bareN (t.data.toList.drop n) = none → wordsR s.data.toList = none from fun h => by
                have hb0 : bareN t.data.toList = none := by rw [HB.out, h]; rfl
                rw [HR2.out, ← HR.out.eq, HL.out]
                exact wordsL_nobare hb h35 h34 (by rw [← HL.out]; exact hb0))
              by_cases h33 : (t[n]).toNat < 33
              · have HF := Lib.hid (HX.out (by rw [hd]; exact bareN_bad hx (.inl h33)))
                have c4 : ((t[n]).toNat : Int) < 33 := by omega
                clear hd
                go_wp2_with (go_at_call 42; refine (blank_any _ _).mono ?_; rintro e w5 ⟨rfl, hw5⟩; have hw5 := hw5.symm; subst hw5)
                go_ret2
                exact WRet.bad HF.out HR.out.below
              have c4 : ¬ ((t[n]).toNat : Int) < 33 := by omega
              by_cases h342 : (t[n]).toNat = 34
              · have HF := Lib.hid (HX.out (by rw [hd]; exact bareN_bad hx (.inr h342)))
                have c5 : (((t[n]).toNat : Int) == 34) = true := by simp; omega
                have HBl : Hid (Calls Tryz.prog 42 #[.int .u8 34] wr fun e w' => e = .returned (.bool false) ∧ w' = wr) := Lib.hid (by have := blank_any t[n] wr; rw [h342, hx] at this; exact this)
                clear hd
                go_wp2_with (go_at_call 42; refine HBl.out.mono ?_; rintro e w5 ⟨rfl, hw5⟩; have hw5 := hw5.symm; subst hw5)
                go_ret2
                exact WRet.bad HF.out HR.out.below
              have c5 : (((t[n]).toNat : Int) == 34) = false := by simp; omega
              have HN := Lib.hid (show bareN t.data.toList = (bareN (t.data.toList.drop (n + 1))).map (· + (n + 1)) by
                rw [HB.out, hd, bareN_step hx (by omega)]
                cases bareN (t.data.toList.drop (n + 1)) with
                | none => rfl
                | some k => simp; omega)
              clear hd
              cases gk with
              | zero => omega
              | succ g3 =>
                go_wp2_with (go_at_call 42; refine (blank_any _ _).mono ?_; rintro e w5 ⟨rfl, hw5⟩; have hw5 := hw5.symm; subst hw5)
                go_roundg g3
                case measure => omega
                case rel => exact ⟨n + 1, by omega, by first | (simp; done) | (simp; omega), rfl, HN⟩
            · have c3 : ¬ (n : Int) < (t.size : Int) := by omega
              have HF := Lib.hid (bare_loop_end HB.out (by rw [drop_end t n (by omega)]; rfl))
              go_wp2
              go_meet
              exact ⟨n, rfl, rfl, by omega, HF.out⟩
        case rest =>
          obtain ⟨n, rfl, hwx, hnt, hbn⟩ := hcut
          have hwx := hwx.symm
          subst hwx
          have hpos := bareN_pos (HL.out ▸ hbn : bareN (c :: r) = some n) hb
          have HE := Lib.hid (HL.out ▸ wordsL_bare (g := g) (ws := ws) hb h35 h34 (HL.out ▸ hbn) : wordsL (g + 1) ws t.data.toList = wordsL g (ws ++ [t.data.toList.take n]) (t.data.toList.drop n))
          have c3 : (n : Int) ≤ (t.size : Int) := by omega
          have c4 : (0 : Int) ≤ (n : Int) := by omega
          have HP := Lib.hid hpos
          clear hbn hpos
          have HRd : Hid (Wst w R (g + 1) t.data.toList ws v wr.drew) := Lib.hid (HR.out.kept ⟨rfl, rfl, rfl, Nat.le_refl _, fun _ _ => rfl⟩)
          go_wp2
          go_region_law (first
            | (refine step_append_lies _ (by rfl) _ _ _ (by rfl) w.heap.size 9 i0 _ 1 16 Tryz.underlying36 hi0 hz0 hz1 hz2 rfl (by decide) v ws.length (wordsV ws) (by rfl) (HRd.out.own.alloc _)
                 ⟨wr.heap.size, 0, none⟩ 1 1 [.string (t.extract 0 n)] (by rfl) (by rfl) (World.news_of_block (cs := #[.string (t.extract 0 n)]) (t := 9) (fr := (0, 0)) (heap_alloc_new wr.drew _)) (by simp [Value.oneCell'])
                 (by omega) (by unfold maxLen; omega) (by omega) (by have := HRd.out.below.size; simp at this ⊢; omega) (wr.heap.size + 1) (by simp) ?_
               intro g2 cap2 wA hownA hgA _ _)
            | fail)
          all_goals
            (go_wp2
             go_roundg g
             case measure => omega
             case rel =>
               have hl1 : (t.extract n t.size).size = t.size - n := by rw [Lib.size_eq, extract_drop, List.length_drop, ← Lib.size_eq]
               exact ⟨t.extract n t.size, _, _, by rw [hl1]; have := HP.out; omega, rfl, rfl, Lib.hid (HRd.out.next (by rw [extract_drop, List.length_drop]; have := HP.out; rw [← Lib.size_eq]; omega) (by rw [extract_drop]; exact HE.out) (by rw [← strV_of (take_list t n)]; exact hownA) hgA)⟩)
end Go.Proofs.Cw
