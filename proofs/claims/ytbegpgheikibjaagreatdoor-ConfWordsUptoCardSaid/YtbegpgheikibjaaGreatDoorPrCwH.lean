/- options: the document's Quote. -/
import Derived.Test.YtbegpgheikibjaaGreatDoorPrCwC
import Derived.Test.YtbegpgheikibjaaGreatDoorPrCwG
namespace Go.Proofs.Cw
open Go Go.RowKit Go.Proofs.Sa Go.Pl
theorem escL_snoc (l : List UInt8) (c : UInt8) : escL (l ++ [c]) = escL l ++ (if c.toNat = 34 ∨ c.toNat = 92 then [92, c] else [c]) := by simp [escL]
/-- What holds ahead of a round of the second loop. -/
structure Est (w : World) (l : List UInt8) (v : Value) (wx : World) : Prop where
  own : wx.ownsRow w.heap.size 5 1 v l.length (Lib.byteCells l)
  below : Below w.heap.size w wx
theorem Est.kept {w : World} {l : List UInt8} {v : Value} {wx w' : World} (h : Est w l v wx) (hb : Below wx.heap.size wx w') : Est w l v w' := ⟨own_below h.own hb, below_step h.below hb⟩
theorem Est.next {w : World} {l : List UInt8} {v v' : Value} {wx w3 : World} {o : Obj} {x : UInt8} {c : Int} (h : Est w l v wx) (hc : c = x.toNat)
    (hown : w3.ownsRow w.heap.size 5 1 v' (l.length + 1) (Lib.byteCells l ++ [.int .u8 c])) (hg : (wx.alloc o).grownBy w3 v.ownBlock) : Est w (l ++ [x]) v' w3 :=
  ⟨by rw [Lib.byteCells_append, List.length_append]; subst hc; exact hown, (h.below.alloc h.below.size o).grown hg (by have := h.below.size; simp; omega) (fun k hk => (h.own.lt k hk).1)⟩
set_option maxRecDepth 1000000 in
set_option maxHeartbeats 3200000 in
theorem rquote_any (s : ByteArray) (hs : s.size ≤ 1048576) (w : World) : Calls Tryz.prog 20 #[.string s] w (TRet s.data.toList w) := by
  have HSZ := Lib.hid (Lib.size_eq s)
  obtain ⟨i0, hi0, hz0, hz1, hz2⟩ := info_parts info5
  go_enter Tryz.func20, Tryz.ntmps20
  go_upto_region 1 with fail
  go_cut [4] (fun s4 wx => ∃ b, s4 = .bool b ∧ wx = w ∧ Hid (Pst s.data.toList 0 b))
  case first =>
    by_cases h0 : s.toList = []
    · have HP := Lib.hid (pre_empty h0)
      go_wp2
      go_meet
      exact ⟨false, rfl, rfl, HP⟩
    · have hne : s.data.toList ≠ [] := fun e => h0 (by rw [Lib.toList_data]; exact e)
      have hp : 0 < s.size := by
        rw [HSZ.out]; exact List.length_pos_iff.2 hne
      have ht4 : s.toList.isEmpty = false := by simpa using h0
      have c0 : (0 : Int) < (s.size : Int) := by omega
      clear hne
      by_cases h35 : (s[0]).toNat = 35
      · have c1 : (((s[0]).toNat : Int) != 35) = false := by simp; omega
        have HP := Lib.hid (pre_head hp false (by simp [h35]))
        go_wp2
        go_meet
        exact ⟨false, rfl, rfl, HP⟩
      · have c1 : (((s[0]).toNat : Int) != 35) = true := by simp; omega
        have HP := Lib.hid (pre_head hp true (by simp [h35]))
        go_wp2
        go_meet
        exact ⟨true, rfl, rfl, HP⟩
  case rest =>
    obtain ⟨b0, rfl, hwx, HP0⟩ := hcut
    have hwx := hwx.symm
    subst hwx
    go_wp2
    go_loopg [4, 5] s.size (fun g s4 s16 wx => ∃ (i : Nat) (b : Bool), i + g = s.size ∧ s4 = .bool b ∧ s16 = .int .i64 i ∧ wx = w ∧ Hid (Pst s.data.toList i b))
    case atStart => exact ⟨0, b0, by omega, rfl, rfl, rfl, HP0⟩
    case round =>
      obtain ⟨i, b, hig, rfl, rfl, hwx, HP⟩ := hrel
      have hwx := hwx.symm
      subst hwx
      cases gk with
      | zero =>
        have c0 : ¬ (i : Int) < (s.size : Int) := by omega
        obtain ⟨hF1, hF2⟩ := HP.out.fin (by omega)
        cases b with
        | true =>
          have HF := Lib.hid (fun w' hb => TRet.bare (w := w) (w' := w') hF1 hF2 hb)
          clear hF1 hF2
          go_wp2
          go_ret2
          exact HF.out _ (Below.refl _ _)
        | false =>
          have HF := Lib.hid (fun a w' ha hb => TRet.quoted (a := a) (w := w) (w' := w') hF1 hF2 ha hb)
          clear hF1 hF2
          have HE0 : Hid (Est w [34] (.slice (some ⟨w.heap.size, 0, none⟩) 1 1) (w.alloc (.cells #[.int .u8 34] 5))) := Lib.hid
            ⟨⟨rfl, .inr ⟨w.heap.size, 1, _, rfl, Nat.le_refl _, heap_alloc_new w _, Nat.le_refl _, by decide, rfl, rfl⟩⟩, (Below.refl _ _).alloc (Nat.le_refl _) _⟩
          go_wp2
          generalize (w.alloc (.cells #[.int .u8 34] 5)) = w1 at *
          go_loopg [6, 7] s.size (fun g s6 s7 wx => ∃ (i : Nat) (v : Value), i + g = s.size ∧ v = s6 ∧ s7 = .int .i64 i ∧ Hid (Est w ([34] ++ escL (s.data.toList.take i)) v wx))
          case atStart => exact ⟨0, _, by omega, rfl, rfl, HE0⟩
          case round =>
            obtain ⟨i, v, hig, rfl, rfl, HR⟩ := hrel
            have hel : ([34] ++ escL (s.data.toList.take i)).length ≤ 1 + 2 * s.size := by
              have h1 := escL_len (s.data.toList.take i)
              have h2 : (s.data.toList.take i).length ≤ s.data.toList.length := by rw [List.length_take]; omega
              have := HSZ.out
              rw [List.length_append, List.length_singleton]; omega
            cases gk with
            | zero =>
              have c0 : ¬ (i : Int) < (s.size : Int) := by omega
              rw [take_all s i (by omega)] at HR hel
              have HF2 := Lib.hid (fun w' hb => HF.out ⟨([34] ++ escL s.data.toList ++ [34]).toArray⟩ w' rfl hb)
              generalize [34] ++ escL s.data.toList = acc at *
              go_wp2_with (at_builtin; refine wpList_append_own _ rfl _ _ 37 rfl w.heap.size 5 i0 (.int .u8 0) 1 1 Tryz.underlying37 hi0 hz0 hz1 hz2 rfl (by decide) _ _ _ rfl (HR.out.own.alloc _) ⟨wr.heap.size, 0, none⟩ 1 1 [.int .u8 34] rfl rfl (cell_one_new _ _ _) (fun u hu => by simp at hu; subst hu; rfl) (by unfold maxLen; omega) (by omega) (by have := HR.out.below.size; simp; omega) ?_; intro v2 w3 hown2 hgrow2 hnil2; have HE3 := Lib.hid (HR.out.next (x := 34) rfl hown2 hgrow2); have d0 := conv_own HE3.out.own; clear hown2 hgrow2 hnil2)
              go_ret2
              exact HF2.out _ HE3.out.below
            | succ g =>
              have hi : i < s.size := by omega
              have c0 : (i : Int) < (s.size : Int) := by omega
              have HT := Lib.hid (show [34] ++ escL (s.data.toList.take (i + 1)) = [34] ++ escL (s.data.toList.take i) ++ (if (s[i]).toNat = 34 ∨ (s[i]).toNat = 92 then [92, s[i]] else [s[i]]) by rw [take_at s i hi, escL_snoc, List.append_assoc])
              generalize hacc : [34] ++ escL (s.data.toList.take i) = acc at *
              have HAcc := Lib.hid hacc
              clear hacc
              by_cases hk : (s[i]).toNat = 34 ∨ (s[i]).toNat = 92
              · have HT2 := Lib.hid (show [34] ++ escL (s.data.toList.take (i + 1)) = (acc ++ [92]) ++ [s[i]] by rw [HT.out, if_pos hk]; simp)
                rcases hk with hk | hk
                · have c1 : (((s[i]).toNat : Int) == 34) = true := by simp; omega
                  go_wp2_with (first
                    | (at_builtin; refine wpList_append_own _ rfl _ _ 37 rfl w.heap.size 5 i0 (.int .u8 0) 1 1 Tryz.underlying37 hi0 hz0 hz1 hz2 rfl (by decide) _ _ _ rfl (HR.out.own.alloc _) ⟨wr.heap.size, 0, none⟩ 1 1 [.int .u8 92] rfl rfl (cell_one_new _ _ _) (fun u hu => by simp at hu; subst hu; rfl) (by unfold maxLen; omega) (by omega) (by have := HR.out.below.size; simp; omega) ?_; intro v2 w3 hown2 hgrow2 hnil2; have HE3 := Lib.hid (HR.out.next (x := 92) rfl hown2 hgrow2); have hl3 : (acc ++ [92]).length = acc.length + 1 := List.length_append; clear hown2 hgrow2 hnil2)
                    | (at_builtin; refine wpList_append_own _ rfl _ _ 37 rfl w.heap.size 5 i0 (.int .u8 0) 1 1 Tryz.underlying37 hi0 hz0 hz1 hz2 rfl (by decide) _ _ _ rfl (HE3.out.own.alloc _) ⟨w3.heap.size, 0, none⟩ 1 1 [.int .u8 34] rfl rfl (cell_one_new _ _ _) (fun u hu => by simp at hu; subst hu; rfl) (by unfold maxLen; omega) (by omega) (by have := HE3.out.below.size; simp; omega) ?_; intro v4 w5 hown4 hgrow4 hnil4; have HE5 := Lib.hid (HE3.out.next (x := s[i]) (by simp [hk]) hown4 hgrow4); clear hown4 hgrow4 hnil4))
                  go_roundg g
                  case measure => omega
                  case rel => exact ⟨i + 1, _, by omega, rfl, by first | (simp; done) | (simp; omega), Lib.hid (by rw [HT2.out]; exact HE5.out)⟩
                · have c1 : (((s[i]).toNat : Int) == 34) = false := by simp; omega
                  have c2 : (((s[i]).toNat : Int) == 92) = true := by simp; omega
                  go_wp2_with (first
                    | (at_builtin; refine wpList_append_own _ rfl _ _ 37 rfl w.heap.size 5 i0 (.int .u8 0) 1 1 Tryz.underlying37 hi0 hz0 hz1 hz2 rfl (by decide) _ _ _ rfl (HR.out.own.alloc _) ⟨wr.heap.size, 0, none⟩ 1 1 [.int .u8 92] rfl rfl (cell_one_new _ _ _) (fun u hu => by simp at hu; subst hu; rfl) (by unfold maxLen; omega) (by omega) (by have := HR.out.below.size; simp; omega) ?_; intro v2 w3 hown2 hgrow2 hnil2; have HE3 := Lib.hid (HR.out.next (x := 92) rfl hown2 hgrow2); have hl3 : (acc ++ [92]).length = acc.length + 1 := List.length_append; clear hown2 hgrow2 hnil2)
                    | (at_builtin; refine wpList_append_own _ rfl _ _ 37 rfl w.heap.size 5 i0 (.int .u8 0) 1 1 Tryz.underlying37 hi0 hz0 hz1 hz2 rfl (by decide) _ _ _ rfl (HE3.out.own.alloc _) ⟨w3.heap.size, 0, none⟩ 1 1 [.int .u8 92] rfl rfl (cell_one_new _ _ _) (fun u hu => by simp at hu; subst hu; rfl) (by unfold maxLen; omega) (by omega) (by have := HE3.out.below.size; simp; omega) ?_; intro v4 w5 hown4 hgrow4 hnil4; have HE5 := Lib.hid (HE3.out.next (x := s[i]) (by simp [hk]) hown4 hgrow4); clear hown4 hgrow4 hnil4))
                  go_roundg g
                  case measure => omega
                  case rel => exact ⟨i + 1, _, by omega, rfl, by first | (simp; done) | (simp; omega), Lib.hid (by rw [HT2.out]; exact HE5.out)⟩
              · have HT2 := Lib.hid (show [34] ++ escL (s.data.toList.take (i + 1)) = acc ++ [s[i]] by rw [HT.out, if_neg hk])
                have c1 : (((s[i]).toNat : Int) == 34) = false := by simp; omega
                have c2 : (((s[i]).toNat : Int) == 92) = false := by simp; omega
                clear hk
                go_wp2_with (at_builtin; refine wpList_append_own _ rfl _ _ 37 rfl w.heap.size 5 i0 (.int .u8 0) 1 1 Tryz.underlying37 hi0 hz0 hz1 hz2 rfl (by decide) _ _ _ rfl (HR.out.own.alloc _) ⟨wr.heap.size, 0, none⟩ 1 1 [.int .u8 (s[i]).toNat] rfl rfl (cell_one_new _ _ _) (fun u hu => by simp at hu; subst hu; rfl) (by unfold maxLen; omega) (by omega) (by have := HR.out.below.size; simp; omega) ?_; intro v2 w3 hown' hgrow' hnil')
                go_roundg g
                case measure => omega
                case rel => exact ⟨i + 1, _, by omega, rfl, by first | (simp; done) | (simp; omega), Lib.hid (by rw [HT2.out]; exact HR.out.next rfl hown' hgrow')⟩
      | succ g =>
        have hi : i < s.size := by omega
        have c0 : (i : Int) < (s.size : Int) := by omega
        by_cases hct : (s[i]).toNat < 32 ∧ (s[i]).toNat ≠ 9
        · have HF := Lib.hid (Pst.stop hi (by rw [ctl_of]; simp [hct]))
          have c1 : ((s[i]).toNat : Int) < 32 := by omega
          have c2 : (((s[i]).toNat : Int) != 9) = true := by simp; omega
          go_wp2
          go_ret2
          exact TRet.bad HF.out (Below.refl _ _)
        have hnc : ctl s[i] = false := by rw [ctl_of]; simp; omega
        have HN := Lib.hid (fun b' hb => HP.out.next (b' := b') hi hnc hb)
        clear hnc
        cases b with
        | false =>
          by_cases h32 : (s[i]).toNat < 32
          · have c1 : ((s[i]).toNat : Int) < 32 := by omega
            have c2 : (((s[i]).toNat : Int) != 9) = false := by simp; omega
            go_wp2
            go_roundg g
            case measure => omega
            case rel => exact ⟨i + 1, false, by omega, rfl, by first | (simp; done) | (simp; omega), rfl, Lib.hid (HN.out false rfl)⟩
          · have c1 : ¬ ((s[i]).toNat : Int) < 32 := by omega
            go_wp2
            go_roundg g
            case measure => omega
            case rel => exact ⟨i + 1, false, by omega, rfl, by first | (simp; done) | (simp; omega), rfl, Lib.hid (HN.out false rfl)⟩
        | true =>
          by_cases h32 : (s[i]).toNat < 32
          · have h9 : (s[i]).toNat = 9 := by omega
            have c1 : ((s[i]).toNat : Int) < 32 := by omega
            have c2 : (((s[i]).toNat : Int) != 9) = false := by simp; omega
            have c3 : ¬ (32 : Int) < ((s[i]).toNat : Int) := by omega
            have HN2 := Lib.hid (HN.out false (by rw [plainC_of]; simp [h9]))
            clear h9
            go_wp2
            go_roundg g
            case measure => omega
            case rel => exact ⟨i + 1, false, by omega, rfl, by first | (simp; done) | (simp; omega), rfl, HN2⟩
          have c1 : ¬ ((s[i]).toNat : Int) < 32 := by omega
          by_cases h33 : 32 < (s[i]).toNat
          · have c3 : (32 : Int) < ((s[i]).toNat : Int) := by omega
            by_cases h34 : (s[i]).toNat = 34
            · have c4 : (((s[i]).toNat : Int) != 34) = false := by simp; omega
              have HN2 := Lib.hid (HN.out false (by rw [plainC_of]; simp [h34]))
              go_wp2
              go_roundg g
              case measure => omega
              case rel => exact ⟨i + 1, false, by omega, rfl, by first | (simp; done) | (simp; omega), rfl, HN2⟩
            · have c4 : (((s[i]).toNat : Int) != 34) = true := by simp; omega
              have HN2 := Lib.hid (HN.out true (by rw [plainC_of]; simp [h34, h33]))
              go_wp2
              go_roundg g
              case measure => omega
              case rel => exact ⟨i + 1, true, by omega, rfl, by first | (simp; done) | (simp; omega), rfl, HN2⟩
          · have c3 : ¬ (32 : Int) < ((s[i]).toNat : Int) := by omega
            have HN2 := Lib.hid (HN.out false (by rw [plainC_of]; simp [h33]))
            go_wp2
            go_roundg g
            case measure => omega
            case rel => exact ⟨i + 1, false, by omega, rfl, by first | (simp; done) | (simp; omega), rfl, HN2⟩
end Go.Proofs.Cw
