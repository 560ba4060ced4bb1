/- options: the document's four. -/
import Derived.Laws.IdiomStrings
import Derived.Lib.BufferRead
import Derived.Test.YtbegpgheikibjaaGreatDoorPrCnJ
namespace Go.Proofs.Cn
open Go Go.RowKit Go.Pl Go.Maps Go.Proofs.Sa
theorem info5 : (Tryz.prog.info? 5).map (fun i => (i.zero, i.size, i.bytes)) = some (some (.int .u8 0), 1, 1) := by kernel_rfl
def hexC (k : Nat) : UInt8 := UInt8.ofNat (if k < 10 then 48 + k else 87 + k)
def hexAt (n k : Nat) : Nat := n / 16 ^ (3 - k) % 16
/-- The lowest 16 bits as four digits. -/
def four (n : Nat) : List UInt8 := [hexC (hexAt n 0), hexC (hexAt n 1), hexC (hexAt n 2), hexC (hexAt n 3)]
theorem hexAt_lt (n k : Nat) : hexAt n k < 16 := Nat.mod_lt _ (by decide)
theorem four_take (n k : Nat) (hk : k < 4) : (four n).take (k + 1) = (four n).take k ++ [hexC (hexAt n k)] := by
  match k, hk with
  | 0, _ => rfl
  | 1, _ => rfl
  | 2, _ => rfl
  | 3, _ => rfl
theorem and_15 (a : Nat) (ha : a < 18446744073709551616) : bits BinOp.and .u64 (a : Int) 15 = ((a % 16 : Nat) : Int) := by
  have : (15 : Int) = ((15 : Nat) : Int) := rfl
  rw [this, u64_and_nat _ _ ha (by decide)]
  congr 1
  exact Nat.and_two_pow_sub_one_eq_mod _ 4
theorem conv_own {w : World} {B : Nat} {v : Value} {l : List UInt8} (h : w.ownsRow B 5 1 v l.length (Lib.byteCells l)) : (convert 37 9 v).run Tryz.prog w = .ok (.string ⟨l.toArray⟩) w := by
  rcases h.2 with ⟨rfl, h0⟩ | ⟨g, cap, cur, rfl, _, hg, _, _, _, htk⟩
  · obtain rfl : l = [] := List.length_eq_zero_iff.1 h0
    exact Lib.run_convert_nil_bytes w 37 9 5 0 Tryz.underlying37 Tryz.underlying5 Tryz.underlying9
  · exact run_convert_bytes_back w 37 9 5 ⟨g, 0, none⟩ cap l Tryz.underlying37 Tryz.underlying5 Tryz.underlying9 (Lib.bytes_of_row hg (by rw [Nat.mul_one] at htk; exact htk))
theorem digit_16 : ∀ (x : Nat) (h : x < 16), (⟨#[48, 49, 50, 51, 52, 53, 54, 55, 56, 57, 97, 98, 99, 100, 101, 102]⟩ : ByteArray)[x]'h = hexC x := by decide
theorem digit_at (x : Nat) (h : x < (⟨#[48, 49, 50, 51, 52, 53, 54, 55, 56, 57, 97, 98, 99, 100, 101, 102]⟩ : ByteArray).size) : (⟨#[48, 49, 50, 51, 52, 53, 54, 55, 56, 57, 97, 98, 99, 100, 101, 102]⟩ : ByteArray)[x]'h = hexC x := digit_16 x h
/-- What holds ahead of a round. -/
structure Est (w : World) (l : List UInt8) (v : Value) (wx : World) : Prop where
  own : wx.ownsRow w.heap.size 5 1 v l.length (Lib.byteCells l)
  below : Below w.heap.size w wx
theorem Est.next {w : World} {l : List UInt8} {v v' : Value} {wx w3 : World} {o : Obj} {x : UInt8} {c : Int} (h : Est w l v wx) (hc : c = x.toNat)
    (hown : w3.ownsRow w.heap.size 5 1 v' (l.length + 1) (Lib.byteCells l ++ [.int .u8 c])) (hg : (wx.alloc o).grownBy w3 v.ownBlock) : Est w (l ++ [x]) v' w3 :=
  ⟨by rw [Lib.byteCells_append, List.length_append]; subst hc; exact hown, (h.below.alloc h.below.size o).grown hg (by have := h.below.size; simp; omega) (fun k hk => (h.own.lt k hk).1)⟩
set_option maxRecDepth 1000000 in
set_option maxHeartbeats 3200000 in
theorem four_any (n : Nat) (hn : n < 18446744073709551616) (w : World) : Calls Tryz.prog 56 #[.int .u64 n] w fun e w' => e = .returned (.string ⟨(four n).toArray⟩) ∧ Below w.heap.size w w' := by
  obtain ⟨i0, hi0, hz0, hz1, hz2⟩ := info_parts info5
  have HS0 : Hid (Est w [] (.slice none 0 0) w) := Lib.hid ⟨World.ownsRow_nil _ _ _ _, Below.refl _ _⟩
  go_enter Tryz.func56, Tryz.ntmps56
  go_wp2
  go_loopg [3, 4] 4 (fun g s3 s4 wx => ∃ (k : Nat) (v : Value), k + g = 4 ∧ v = s3 ∧ s4 = .int .i64 (3 - (k : Int)) ∧ Hid (Est w ((four n).take k) v wx))
  case atStart => exact ⟨0, _, by omega, rfl, rfl, HS0⟩
  case round =>
    obtain ⟨k, v, hkg, rfl, rfl, HR⟩ := hrel
    cases gk with
    | zero =>
      obtain rfl : k = 4 := by omega
      have c0 : ¬ (0 : Int) ≤ 3 - ((4 : Nat) : Int) := by omega
      have d0 := conv_own HR.out.own
      rw [show (four n).take 4 = four n from rfl] at d0
      go_wp2
      go_ret
      exact ⟨by simp, HR.out.below⟩
    | succ g =>
      have HT := Lib.hid (four_take n k (by omega))
      have hlt : ((four n).take k).length ≤ 4 := by rw [List.length_take]; omega
      generalize hacc : (four n).take k = acc at *
      have HA := Lib.hid hacc
      clear hacc
      rcases (show k = 0 ∨ k = 1 ∨ k = 2 ∨ k = 3 by omega) with rfl | rfl | rfl | rfl
      · have hb : bits BinOp.and .u64 ((n : Int) / 4096) 15 = ((hexAt n 0 : Nat) : Int) := and_15 (n / 4096) (by omega)
        have h16 := hexAt_lt n 0
        generalize hexAt n 0 = x at *
        have hdig := digit_at
        go_wp2_with (at_builtin; refine wpList_append_own _ rfl _ _ 37 rfl w.heap.size 5 i0 (.int .u8 0) 1 1 Tryz.underlying37 hi0 hz0 hz1 hz2 rfl (by decide) _ _ _ rfl (HR.out.own.alloc _) ⟨wr.heap.size, 0, none⟩ 1 1 [.int .u8 (hexC x).toNat] rfl rfl (cell_one_new _ _ _) (fun u hu => by simp at hu; subst hu; rfl) (by unfold maxLen; omega) (by omega) (by have := HR.out.below.size; simp; omega) ?_; intro v2 w3 hown2 hgrow2 hnil2)
        go_roundg g
        case measure => omega
        case rel => exact ⟨1, _, by omega, rfl, by first | rfl | (simp; done), Lib.hid (by rw [HT.out]; exact HR.out.next rfl hown2 hgrow2)⟩
      · have hb : bits BinOp.and .u64 ((n : Int) / 256) 15 = ((hexAt n 1 : Nat) : Int) := and_15 (n / 256) (by omega)
        have h16 := hexAt_lt n 1
        generalize hexAt n 1 = x at *
        have hdig := digit_at
        go_wp2_with (at_builtin; refine wpList_append_own _ rfl _ _ 37 rfl w.heap.size 5 i0 (.int .u8 0) 1 1 Tryz.underlying37 hi0 hz0 hz1 hz2 rfl (by decide) _ _ _ rfl (HR.out.own.alloc _) ⟨wr.heap.size, 0, none⟩ 1 1 [.int .u8 (hexC x).toNat] rfl rfl (cell_one_new _ _ _) (fun u hu => by simp at hu; subst hu; rfl) (by unfold maxLen; omega) (by omega) (by have := HR.out.below.size; simp; omega) ?_; intro v2 w3 hown2 hgrow2 hnil2)
        go_roundg g
        case measure => omega
        case rel => exact ⟨2, _, by omega, rfl, by first | rfl | (simp; done), Lib.hid (by rw [HT.out]; exact HR.out.next rfl hown2 hgrow2)⟩
      · have hb : bits BinOp.and .u64 ((n : Int) / 16) 15 = ((hexAt n 2 : Nat) : Int) := and_15 (n / 16) (by omega)
        have h16 := hexAt_lt n 2
        generalize hexAt n 2 = x at *
        have hdig := digit_at
        go_wp2_with (at_builtin; refine wpList_append_own _ rfl _ _ 37 rfl w.heap.size 5 i0 (.int .u8 0) 1 1 Tryz.underlying37 hi0 hz0 hz1 hz2 rfl (by decide) _ _ _ rfl (HR.out.own.alloc _) ⟨wr.heap.size, 0, none⟩ 1 1 [.int .u8 (hexC x).toNat] rfl rfl (cell_one_new _ _ _) (fun u hu => by simp at hu; subst hu; rfl) (by unfold maxLen; omega) (by omega) (by have := HR.out.below.size; simp; omega) ?_; intro v2 w3 hown2 hgrow2 hnil2)
        go_roundg g
        case measure => omega
        case rel => exact ⟨3, _, by omega, rfl, by first | rfl | (simp; done), Lib.hid (by rw [HT.out]; exact HR.out.next rfl hown2 hgrow2)⟩
      · have hb : bits BinOp.and .u64 ((n : Int)) 15 = ((hexAt n 3 : Nat) : Int) := by have := and_15 n hn; rwa [show hexAt n 3 = n % 16 by simp [hexAt]]
        have h16 := hexAt_lt n 3
        generalize hexAt n 3 = x at *
        have hdig := digit_at
        go_wp2_with (at_builtin; refine wpList_append_own _ rfl _ _ 37 rfl w.heap.size 5 i0 (.int .u8 0) 1 1 Tryz.underlying37 hi0 hz0 hz1 hz2 rfl (by decide) _ _ _ rfl (HR.out.own.alloc _) ⟨wr.heap.size, 0, none⟩ 1 1 [.int .u8 (hexC x).toNat] rfl rfl (cell_one_new _ _ _) (fun u hu => by simp at hu; subst hu; rfl) (by unfold maxLen; omega) (by omega) (by have := HR.out.below.size; simp; omega) ?_; intro v2 w3 hown2 hgrow2 hnil2)
        go_roundg g
        case measure => omega
        case rel => exact ⟨4, _, by omega, rfl, by first | rfl | (simp; done), Lib.hid (by rw [HT.out]; exact HR.out.next rfl hown2 hgrow2)⟩
end Go.Proofs.Cn
