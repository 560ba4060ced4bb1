/- secrets: the program's quoted. -/
import Derived.WalkKit
import Derived.Deep.LoopGhost
import Derived.Laws.IdiomStrings
import Derived.Lib.BufferRead
import Derived.Maps.AppendAt
import Derived.OwnWalk
import Derived.Deep.RegionHeld3
import Derived.Test.YtnadimjglkodkaaGreatDoorPrSrP
import Derived.Test.YtnadimjglkodkaaGreatDoorPrTzG
namespace Go.Proofs.Sr
open Go Go.RowKit Go.Pl Go.Proofs.Sa
theorem info5 : (Tryz.prog.info? 5).map (fun i => (i.zero, i.size, i.bytes)) = some (some (.int .u8 0), 1, 1) := by kernel_rfl
theorem drop_at (s : ByteArray) (i : Nat) (h : i < s.size) : s.data.toList.drop i = s[i] :: s.data.toList.drop (i + 1) := by
  rw [List.drop_eq_getElem_cons (by rw [← Lib.size_eq]; exact h)]; rfl
theorem drop_end (s : ByteArray) (i : Nat) (h : s.size ≤ i) : s.data.toList.drop i = [] := List.drop_eq_nil_of_le (by rw [← Lib.size_eq]; exact h)
theorem extract_drop (s : ByteArray) (i : Nat) : (s.extract i s.size).data.toList = s.data.toList.drop i := Lib.extract_to_end s i
theorem u8_back (c : UInt8) : ((c.toNat : Nat) : Int).toNat.toUInt8 = c := by simp
theorem stop_index : ∀ n, n < 256 → decide (0 ≤ Lib.indexByte [32, 9, 13, 35] (UInt8.ofNat n)) = stopS (UInt8.ofNat n) := by decide +kernel
theorem blk_index : ∀ n, n < 256 → decide (0 ≤ Lib.indexByte [32, 9, 13] (UInt8.ofNat n)) = blkS (UInt8.ofNat n) := by decide +kernel
theorem stop_call (c : UInt8) (w : World) : Calls Tryz.prog 113 #[.string ⟨#[32, 9, 13, 35]⟩, .int .u8 c.toNat] w fun e w' => ∃ k : Int, e = .returned (.int .i64 k) ∧ decide (0 ≤ k) = stopS c ∧ w' = w := by
  refine (Tryz.strings_IndexByte ⟨#[32, 9, 13, 35]⟩ c.toNat w).mono ?_
  rintro e w' ⟨rfl, rfl⟩
  refine ⟨_, rfl, ?_, rfl⟩
  rw [u8_back]
  have h := stop_index c.toNat c.toNat_lt
  rwa [UInt8.ofNat_toNat] at h
theorem blk_call (c : UInt8) (w : World) : Calls Tryz.prog 113 #[.string ⟨#[32, 9, 13]⟩, .int .u8 c.toNat] w fun e w' => ∃ k : Int, e = .returned (.int .i64 k) ∧ decide (0 ≤ k) = blkS c ∧ w' = w := by
  refine (Tryz.strings_IndexByte ⟨#[32, 9, 13]⟩ c.toNat w).mono ?_
  rintro e w' ⟨rfl, rfl⟩
  refine ⟨_, rfl, ?_, rfl⟩
  rw [u8_back]
  have h := blk_index c.toNat c.toNat_lt
  rwa [UInt8.ofNat_toNat] at h
/-- Bytes of one's own as a string. -/
theorem conv_own {w : World} {B : Nat} {v : Value} {l : List UInt8} (h : w.ownsRow B 5 1 v l.length (Lib.byteCells l)) : (convert 102 9 v).run Tryz.prog w = .ok (.string ⟨l.toArray⟩) w := by
  rcases h.2 with ⟨rfl, h0⟩ | ⟨g, cap, cur, rfl, _, hg, _, _, _, htk⟩
  · obtain rfl : l = [] := List.length_eq_zero_iff.1 h0
    exact Lib.run_convert_nil_bytes w 102 9 5 0 Tryz.underlying102 Tryz.underlying5 Tryz.underlying9
  · exact run_convert_bytes_back w 102 9 5 ⟨g, 0, none⟩ cap l Tryz.underlying102 Tryz.underlying5 Tryz.underlying9 (Lib.bytes_of_row hg (by rw [Nat.mul_one] at htk; exact htk))
/-- What holds ahead of a round. -/
structure Rst (w : World) (l : List UInt8) (fr i : Nat) (acc : List UInt8) (v : Value) (wx : World) : Prop where
  own : wx.ownsRow w.heap.size 5 1 v acc.length (Lib.byteCells acc)
  below : Below w.heap.size w wx
  eq : quoS acc (l.drop i) = quoS [] (l.drop fr)
  len : acc.length ≤ i
theorem Rst.kept {w : World} {l : List UInt8} {fr i : Nat} {acc : List UInt8} {v : Value} {wx w' : World} (h : Rst w l fr i acc v wx) (hb : Below wx.heap.size wx w') : Rst w l fr i acc v w' :=
  ⟨own_below h.own hb, below_step h.below hb, h.eq, h.len⟩
theorem Rst.next {w : World} {l : List UInt8} {fr i j : Nat} {acc : List UInt8} {v v' : Value} {wx w3 : World} {x : UInt8} {c : Int} {o : Obj} (h : Rst w l fr i acc v wx) (hc : c = x.toNat) (hj : i < j) (he : quoS acc (l.drop i) = quoS (acc ++ [x]) (l.drop j))
    (hown : w3.ownsRow w.heap.size 5 1 v' (acc.length + 1) (Lib.byteCells acc ++ [.int .u8 c])) (hg : (wx.alloc o).grownBy w3 v.ownBlock) : Rst w l fr j (acc ++ [x]) v' w3 :=
  ⟨by rw [Lib.byteCells_append]; subst hc; rw [List.length_append]; exact hown, (h.below.alloc h.below.size o).grown hg (by have := h.below.size; simp; omega) (fun k hk => (h.own.lt k hk).1), he.symm.trans h.eq, by have := h.len; simp; omega⟩
/-- What quoted answers. -/
def QRet (s : ByteArray) (fr : Nat) (w : World) (e : Ending) (w' : World) : Prop :=
  ∃ a k ok, e = .returned (.tuple #[.string a, .int .i64 k, .bool ok]) ∧ (∀ x y, quoS [] (s.data.toList.drop fr) = some (x, y) → ok = true ∧ a.data.toList = x ∧ ∃ j : Nat, k = j ∧ y = s.data.toList.drop j ∧ fr < j ∧ j ≤ s.size) ∧ (quoS [] (s.data.toList.drop fr) = none → ok = false) ∧ Below w.heap.size w w'
theorem QRet.bad {s : ByteArray} {fr : Nat} {w w' : World} (h : quoS [] (s.data.toList.drop fr) = none) (hb : Below w.heap.size w w') : QRet s fr w (.returned (.tuple #[.string ⟨#[]⟩, .int .i64 0, .bool false])) w' :=
  ⟨_, _, _, rfl, fun x y e => absurd (h.symm.trans e) (by simp), fun _ => rfl, hb⟩
theorem QRet.good {s : ByteArray} {fr i : Nat} {acc : List UInt8} {w w' : World} (hi : i < s.size) (hf : fr ≤ i) (h34 : (s[i]).toNat = 34) (h : quoS acc (s.data.toList.drop i) = quoS [] (s.data.toList.drop fr)) (hb : Below w.heap.size w w') (ok : Bool) (hok : ok = (s.data.toList.drop (i + 1)).head?.all stopS) (k : Int) (hk : k = ((i + 1 : Nat) : Int)) :
    QRet s fr w (.returned (.tuple #[.string ⟨acc.toArray⟩, .int .i64 k, .bool ok])) w' := by
  rw [drop_at s i hi, quoS_end h34] at h
  refine ⟨_, _, _, rfl, fun x y e => ?_, fun e => ?_, hb⟩
  · rw [← h] at e
    split at e
    · rename_i ht
      injection e with e; injection e with e1 e2
      exact ⟨hok.trans ht, by rw [← e1], i + 1, hk, e2.symm, by omega, hi⟩
    · cases e
  · rw [← h] at e
    split at e
    · cases e
    · rename_i ht
      rw [hok]; simpa using ht
set_option maxRecDepth 1000000 in
set_option maxHeartbeats 3200000 in
theorem quoted_any (s : ByteArray) (hs : s.size < 4294967281) (h1 : 0 < s.size) (w : World) : Calls Tryz.prog 114 #[.string s] w (QRet s 1 w) := by
  obtain ⟨i0, hi0, hz0, hz1, hz2⟩ := info_parts info5
  have HS0 : Hid (Rst w s.data.toList 1 1 [] (.slice none 0 0) w) := Lib.hid ⟨World.ownsRow_nil _ _ _ _, Below.refl _ _, rfl, Nat.zero_le _⟩
  go_enter Tryz.func114, Tryz.ntmps114
  go_wp2
  go_loopg [5, 6] (s.size - 1) (fun g s5 s6 wx => ∃ (i : Nat) (acc : List UInt8) (v : Value), i + g = s.size ∧ 1 ≤ i ∧ v = s5 ∧ s6 = .int .i64 i ∧ Hid (Rst w s.data.toList 1 i acc v wx))
  case atStart => exact ⟨1, [], _, by omega, Nat.le_refl _, rfl, rfl, HS0⟩
  case round =>
    obtain ⟨i, acc, v, hig, h1i, rfl, rfl, HR⟩ := hrel
    have hal : acc.length ≤ i := HR.out.len
    cases gk with
    | zero =>
      have c0 : ¬ (i : Int) < (s.size : Int) := by omega
      have HF := Lib.hid (show quoS [] (s.data.toList.drop 1) = none by rw [← HR.out.eq, drop_end s i (by omega)]; rfl)
      go_wp2
      go_ret3
      exact QRet.bad HF.out HR.out.below
    | succ g =>
      have hi : i < s.size := by omega
      have c0 : (i : Int) < (s.size : Int) := by omega
      have hd := Lib.hid (drop_at s i hi)
      by_cases h34 : (s[i]).toNat = 34
      · have c1 : (((s[i]).toNat : Int) == 34) = true := by simp; omega
        have hwr : IntKind.i64.wrap ((i : Int) + 1) = (i : Int) + 1 := by rw [IntWalk.i64_left]; unfold wrap64; omega
        have hcv : ∀ w', Rst w s.data.toList 1 i acc v w' → (convert 102 9 v).run Tryz.prog w' = .ok (.string ⟨acc.toArray⟩) w' := fun w' h => conv_own h.own
        have HCV := Lib.hid hcv
        clear hcv
        have HRd : Hid (Rst w s.data.toList 1 i acc v wr.drew) := Lib.hid (HR.out.kept ⟨rfl, rfl, rfl, Nat.le_refl _, fun _ _ => rfl⟩)
        have d0 := HCV.out _ HR.out
        have d1 := HCV.out _ HRd.out
        by_cases he : i + 1 = s.size
        · have c3 : (((i : Int) + 1) == (s.size : Int)) = true := by simp; omega
          have c4 : (IntKind.i64.wrap ((i : Int) + 1) == (s.size : Int)) = true := by rw [hwr]; exact c3
          have HF := Lib.hid (fun w' hb' => QRet.good (fr := 1) (w := w) (w' := w') hi h1i h34 HR.out.eq hb' true (by rw [drop_end s (i + 1) (by omega)]; rfl))
          go_wp2
          refine wp_region_held_drew (S := fun w' => (convert 102 9 v).run Tryz.prog w' = .ok (.string ⟨acc.toArray⟩) w' ∧ Hid (Rst w s.data.toList 1 i acc v w')) (by kernel_rfl) ⟨d1, HRd⟩ (fun hHeld => ?_)
          refine wpAnyH_take (i := 0) (v := ?v0) rfl (by kernel_rfl) (by kernel_rfl) (by kernel_rfl) (fun _ _ _ h => h) (Or.inl ⟨by rfl, ?y0⟩) (by assumption) ?r0
          case y0 => (intro w hSw; (try dsimp only at hSw); go_simp; try (with_reducible rfl))
          try simp only [Act.put, List.getElem_toArray, List.getElem_cons_zero, List.getElem_cons_succ, List.setIfInBounds_toArray, List.set_cons_zero, List.set_cons_succ]
          refine wpAnyH_take (i := 1) (v := ?v1) rfl (by kernel_rfl) (by kernel_rfl) (by kernel_rfl) (fun _ _ _ h => h) (Or.inl ⟨by rfl, ?y1⟩) (by assumption) ?r1
          case y1 => (intro w hSw; (try dsimp only at hSw); go_simp; try (with_reducible rfl))
          try simp only [Act.put, List.getElem_toArray, List.getElem_cons_zero, List.getElem_cons_succ, List.setIfInBounds_toArray, List.set_cons_zero, List.set_cons_succ]
          refine wpAnyH_take (i := 2) (v := ?v2) rfl (by kernel_rfl) (by kernel_rfl) (by kernel_rfl) (fun _ _ _ h => h) (Or.inl ⟨by rfl, ?y2⟩) (by assumption) ?r2
          case y2 => (intro w hSw; (try dsimp only at hSw); go_simp; try (with_reducible rfl))
          try simp only [Act.put, List.getElem_toArray, List.getElem_cons_zero, List.getElem_cons_succ, List.setIfInBounds_toArray, List.set_cons_zero, List.set_cons_succ]
          refine wpAnyH_take (i := 3) (v := ?v3) rfl (by kernel_rfl) (by kernel_rfl) (by kernel_rfl) (fun _ _ _ h => h) (Or.inl ⟨by rfl, ?y3⟩) (by assumption) ?r3
          case y3 => (intro w hSw; (try dsimp only at hSw); go_simp; try (with_reducible rfl))
          try simp only [Act.put, List.getElem_toArray, List.getElem_cons_zero, List.getElem_cons_succ, List.setIfInBounds_toArray, List.set_cons_zero, List.set_cons_succ]
          refine wpAnyH_take (i := 4) (v := ?v4) rfl (by kernel_rfl) (by kernel_rfl) (by kernel_rfl) (fun _ _ _ h => h) (Or.inl ⟨by rfl, ?y4⟩) (by assumption) ?r4
          case y4 => (intro w hSw; (try dsimp only at hSw); go_simp; try (with_reducible rfl))
          try simp only [Act.put, List.getElem_toArray, List.getElem_cons_zero, List.getElem_cons_succ, List.setIfInBounds_toArray, List.set_cons_zero, List.set_cons_succ]
          refine wpAnyH_take (i := 5) (v := ?v5) rfl (by kernel_rfl) (by kernel_rfl) (by kernel_rfl) (fun _ _ _ h => h) (Or.inl ⟨by rfl, ?y5⟩) (by assumption) ?r5
          case y5 => (intro w hSw; (try dsimp only at hSw); go_simp; try (with_reducible rfl))
          try simp only [Act.put, List.getElem_toArray, List.getElem_cons_zero, List.getElem_cons_succ, List.setIfInBounds_toArray, List.set_cons_zero, List.set_cons_succ]
          refine wpAnyH_take (i := 6) (v := ?v6) rfl (by kernel_rfl) (by kernel_rfl) (by kernel_rfl) (fun _ _ _ h => h) (Or.inl ⟨by rfl, ?y6⟩) (by assumption) ?r6
          case y6 => (intro w hSw; (try dsimp only at hSw); go_simp; try (with_reducible rfl))
          try simp only [Act.put, List.getElem_toArray, List.getElem_cons_zero, List.getElem_cons_succ, List.setIfInBounds_toArray, List.set_cons_zero, List.set_cons_succ]
          refine wpAnyH_take (i := 7) (v := ?v7) rfl (by kernel_rfl) (by kernel_rfl) (by kernel_rfl) (fun _ _ _ h => h) (Or.inl ⟨by rfl, ?y7⟩) (by assumption) ?r7
          case y7 => (intro w hSw; (try dsimp only at hSw); go_simp; try (with_reducible rfl))
          try simp only [Act.put, List.getElem_toArray, List.getElem_cons_zero, List.getElem_cons_succ, List.setIfInBounds_toArray, List.set_cons_zero, List.set_cons_succ]
          refine wpAnyH_take (i := 8) (v := undef) rfl (by kernel_rfl) (by kernel_rfl) (by kernel_rfl) (fun _ _ _ h => h) (Or.inr ⟨by rfl, rfl⟩) (by assumption) ?_
          try simp only [Act.put, List.getElem_toArray, List.getElem_cons_zero, List.getElem_cons_succ, List.setIfInBounds_toArray, List.set_cons_zero, List.set_cons_succ]
          refine wpAnyH_take (i := 9) (v := undef) rfl (by kernel_rfl) (by kernel_rfl) (by kernel_rfl) (fun _ _ _ h => h) (Or.inr ⟨by rfl, rfl⟩) (by assumption) ?_
          try simp only [Act.put, List.getElem_toArray, List.getElem_cons_zero, List.getElem_cons_succ, List.setIfInBounds_toArray, List.set_cons_zero, List.set_cons_succ]
          refine wpAnyH_take (i := 10) (v := undef) rfl (by kernel_rfl) (by kernel_rfl) (by kernel_rfl) (fun _ _ _ h => h) (Or.inr ⟨by rfl, rfl⟩) (by assumption) ?_
          try simp only [Act.put, List.getElem_toArray, List.getElem_cons_zero, List.getElem_cons_succ, List.setIfInBounds_toArray, List.set_cons_zero, List.set_cons_succ]
          refine wpAnyH_take (i := 11) (v := undef) rfl (by kernel_rfl) (by kernel_rfl) (by kernel_rfl) (fun _ _ _ h => h) (Or.inr ⟨by rfl, rfl⟩) (by assumption) ?_
          try simp only [Act.put, List.getElem_toArray, List.getElem_cons_zero, List.getElem_cons_succ, List.setIfInBounds_toArray, List.set_cons_zero, List.set_cons_succ]
          refine wpAnyH_take (i := 12) (v := undef) rfl (by kernel_rfl) (by kernel_rfl) (by kernel_rfl) (fun _ _ _ h => h) (Or.inr ⟨by rfl, rfl⟩) (by assumption) ?_
          try simp only [Act.put, List.getElem_toArray, List.getElem_cons_zero, List.getElem_cons_succ, List.setIfInBounds_toArray, List.set_cons_zero, List.set_cons_succ]
          refine wpAnyH_take (i := 13) (v := ?v13) rfl (by kernel_rfl) (by kernel_rfl) (by kernel_rfl) (fun _ _ _ h => h) (Or.inl ⟨by rfl, ?y13⟩) (by assumption) ?r13
          case y13 => (intro w hSw; (try dsimp only at hSw); go_simp; try (with_reducible rfl))
          try simp only [Act.put, List.getElem_toArray, List.getElem_cons_zero, List.getElem_cons_succ, List.setIfInBounds_toArray, List.set_cons_zero, List.set_cons_succ]
          refine wpAnyH_take (i := 14) (v := ?v14) rfl (by kernel_rfl) (by kernel_rfl) (by kernel_rfl) (fun _ _ _ h => h) (Or.inl ⟨by rfl, ?y14⟩) (by assumption) ?r14
          case y14 => (intro w hSw; (try dsimp only at hSw); go_simp; try (with_reducible rfl))
          try simp only [Act.put, List.getElem_toArray, List.getElem_cons_zero, List.getElem_cons_succ, List.setIfInBounds_toArray, List.set_cons_zero, List.set_cons_succ]
          refine wpAnyH_take (i := 15) (v := ?v15) rfl (by kernel_rfl) (by kernel_rfl) (by kernel_rfl) (fun _ _ _ h => h) (Or.inl ⟨by rfl, ?y15⟩) (by assumption) ?r15
          case y15 => (intro w hSw; (try dsimp only at hSw); go_simp; try (with_reducible rfl))
          try simp only [Act.put, List.getElem_toArray, List.getElem_cons_zero, List.getElem_cons_succ, List.setIfInBounds_toArray, List.set_cons_zero, List.set_cons_succ]
          refine wpAnyH_take (i := 16) (v := ?v16) rfl (by kernel_rfl) (by kernel_rfl) (by kernel_rfl) (fun _ _ _ h => h) (Or.inl ⟨by rfl, ?y16⟩) (by assumption) ?r16
          case y16 => (intro w hSw; (try dsimp only at hSw); go_simp; try (with_reducible rfl))
          try simp only [Act.put, List.getElem_toArray, List.getElem_cons_zero, List.getElem_cons_succ, List.setIfInBounds_toArray, List.set_cons_zero, List.set_cons_succ]
          refine wpAnyH_done (by kernel_rfl) ?_ _
          go_wp2
          go_ret3
          exact HF.out _ HRd.out.below _ (by first | rfl | simp)
        · have he1 : i + 1 < s.size := by omega
          have c3 : (((i : Int) + 1) == (s.size : Int)) = false := by simp; omega
          have c4 : (IntKind.i64.wrap ((i : Int) + 1) == (s.size : Int)) = false := by rw [hwr]; exact c3
          have HF := Lib.hid (fun w' hb' ok (hok : ok = stopS s[i + 1]) => QRet.good (fr := 1) (w := w) (w' := w') hi h1i h34 HR.out.eq hb' ok (by rw [hok, drop_at s (i + 1) he1]; rfl))
          go_wp2
          go_region_held3 (fun w' => (convert 102 9 v).run Tryz.prog w' = .ok (.string ⟨acc.toArray⟩) w' ∧ Hid (Rst w s.data.toList 1 i acc v w'))
            (first
              | exact ⟨d0, HR⟩
              | exact ⟨d1, HRd⟩
              | assumption
              | fail)
            (first
              | (go_at_call 113; refine (stop_call _ _).mono ?_; rintro e w5 ⟨k, rfl, hk, rfl⟩)
              | fail)
          obtain ⟨_, HSx⟩ := ‹_ ∧ Hid _›
          go_wp2
          go_ret3
          exact HF.out _ HSx.out.below _ rfl _ (by first | rfl | simp)
      have c1 : (((s[i]).toNat : Int) == 34) = false := by simp; omega
      by_cases h92 : (s[i]).toNat = 92
      · have c2 : (((s[i]).toNat : Int) == 92) = true := by simp; omega
        by_cases he : i + 1 = s.size
        · have HF := Lib.hid (show quoS [] (s.data.toList.drop 1) = none by rw [← HR.out.eq, hd.out, drop_end s (i + 1) (by omega), quoS_cut h92])
          have c3 : (s.size : Int) ≤ (i : Int) + 1 := by omega
          go_wp2
          go_ret3
          exact QRet.bad HF.out HR.out.below
        · have he1 : i + 1 < s.size := by omega
          have c3 : ¬ (s.size : Int) ≤ (i : Int) + 1 := by omega
          have hd1 := Lib.hid (drop_at s (i + 1) he1)
          by_cases hk : (s[i + 1]).toNat = 34 ∨ (s[i + 1]).toNat = 92
          · have HQ := Lib.hid (show quoS acc (s.data.toList.drop i) = quoS (acc ++ [s[i + 1]]) (s.data.toList.drop (i + 1 + 1)) by rw [hd.out, hd1.out, quoS_esc h92 hk])
            rcases hk with hk | hk
            · have c4 : (((s[i + 1]).toNat : Int) != 34) = false := by simp; omega
              go_wp2_with (at_builtin; refine wpList_append_own _ rfl _ _ 102 rfl w.heap.size 5 i0 (.int .u8 0) 1 1 Tryz.underlying102 hi0 hz0 hz1 hz2 rfl (by decide) _ _ _ rfl (HR.out.own.alloc _) ⟨wr.heap.size, 0, none⟩ 1 1 [.int .u8 34] rfl rfl (cell_one_new _ _ _) (fun u hu => by simp at hu; subst hu; rfl) (by unfold maxLen; omega) (by omega) (by have := HR.out.below.size; simp; omega) ?_; intro v' w3 hown' hgrow' hnil')
              go_roundg (g - 1)
              case measure => omega
              case rel => exact ⟨i + 1 + 1, _, _, by omega, by omega, rfl, by first | (simp; done) | (simp; omega), Lib.hid (HR.out.next (by simp [hk]) (by omega) HQ.out hown' hgrow')⟩
            · have c4 : (((s[i + 1]).toNat : Int) != 34) = true := by simp; omega
              have c5 : (((s[i + 1]).toNat : Int) != 92) = false := by simp; omega
              go_wp2_with (at_builtin; refine wpList_append_own _ rfl _ _ 102 rfl w.heap.size 5 i0 (.int .u8 0) 1 1 Tryz.underlying102 hi0 hz0 hz1 hz2 rfl (by decide) _ _ _ rfl (HR.out.own.alloc _) ⟨wr.heap.size, 0, none⟩ 1 1 [.int .u8 92] rfl rfl (cell_one_new _ _ _) (fun u hu => by simp at hu; subst hu; rfl) (by unfold maxLen; omega) (by omega) (by have := HR.out.below.size; simp; omega) ?_; intro v' w3 hown' hgrow' hnil')
              go_roundg (g - 1)
              case measure => omega
              case rel => exact ⟨i + 1 + 1, _, _, by omega, by omega, rfl, by first | (simp; done) | (simp; omega), Lib.hid (HR.out.next (by simp [hk]) (by omega) HQ.out hown' hgrow')⟩
          · have HF := Lib.hid (show quoS [] (s.data.toList.drop 1) = none by rw [← HR.out.eq, hd.out, hd1.out, quoS_noesc h92 hk])
            have c4 : (((s[i + 1]).toNat : Int) != 34) = true := by simp; omega
            have c5 : (((s[i + 1]).toNat : Int) != 92) = true := by simp; omega
            go_wp2
            go_ret3
            exact QRet.bad HF.out HR.out.below
      have c2 : (((s[i]).toNat : Int) == 92) = false := by simp; omega
      have HQ := Lib.hid (show quoS acc (s.data.toList.drop i) = quoS (acc ++ [s[i]]) (s.data.toList.drop (i + 1)) by rw [hd.out, quoS_step h34 h92])
      go_wp2_with (at_builtin; refine wpList_append_own _ rfl _ _ 102 rfl w.heap.size 5 i0 (.int .u8 0) 1 1 Tryz.underlying102 hi0 hz0 hz1 hz2 rfl (by decide) _ _ _ rfl (HR.out.own.alloc _) ⟨wr.heap.size, 0, none⟩ 1 1 [.int .u8 (s[i]).toNat] rfl rfl (cell_one_new _ _ _) (fun u hu => by simp at hu; subst hu; rfl) (by unfold maxLen; omega) (by omega) (by have := HR.out.below.size; simp; omega) ?_; intro v' w3 hown' hgrow' hnil')
      go_roundg g
      case measure => omega
      case rel => exact ⟨i + 1, _, _, by omega, by omega, rfl, by first | (simp; done) | (simp; omega), Lib.hid (HR.out.next rfl (by omega) HQ.out hown' hgrow')⟩
end Go.Proofs.Sr
