/- options: the program's quoted. -/
import Derived.WalkKit
import Derived.Deep.LoopGhost
import Derived.Test.YtbegpgheikibjaaGreatDoorPrCwA
import Derived.Test.YtbegpgheikibjaaGreatDoorPrCwS
namespace Go.Proofs.Cw
open Go Go.RowKit
/-- What quoted answers. -/
def QGot (l : List UInt8) (a b : ByteArray) (ok : Bool) : Prop := (∀ x y, quoL [] l = some (x, y) → ok = true ∧ a.data.toList = x ∧ b.data.toList = y) ∧ (quoL [] l = none → ok = false)
/-- What holds ahead of a round. -/
structure Qst (w : World) (b : Nat) (l : List UInt8) (i : Nat) (acc : List UInt8) (wx : World) : Prop where
  own : Lib.IsBuilder 87 5 b b (Lib.byteCells acc) wx
  below : Below b w wx
  eq : quoL acc (l.drop i) = quoL [] l
  len : acc.length ≤ i
theorem drop_at (s : ByteArray) (i : Nat) (h : i < s.size) : s.data.toList.drop i = s[i] :: s.data.toList.drop (i + 1) := by
  rw [List.drop_eq_getElem_cons (by rw [← Lib.size_eq]; exact h)]; rfl
theorem drop_end (s : ByteArray) (i : Nat) (h : s.size ≤ i) : s.data.toList.drop i = [] := List.drop_eq_nil_of_le (by rw [← Lib.size_eq]; exact h)
/-- .. as an ending. -/
def QRet (l : List UInt8) (w : World) (e : Ending) (w' : World) : Prop := ∃ a b ok, e = .returned (.tuple #[.string a, .string b, .bool ok]) ∧ QGot l a b ok ∧ Below w.heap.size w w'
theorem QRet.bad {l : List UInt8} {w w' : World} (h : quoL [] l = none) (hb : Below w.heap.size w w') : QRet l w (.returned (.tuple #[.string ⟨#[]⟩, .string ⟨#[]⟩, .bool false])) w' :=
  ⟨_, _, _, rfl, ⟨fun x y e => absurd (h.symm.trans e) (by simp), fun _ => rfl⟩, hb⟩
theorem extract_drop (s : ByteArray) (i : Nat) : (s.extract i s.size).data.toList = s.data.toList.drop i := Lib.extract_to_end s i
theorem QRet.good {s : ByteArray} {i : Nat} {acc : List UInt8} {w w' : World} (hi : i < s.size) (h34 : (s[i]).toNat = 34) (h : quoL acc (s.data.toList.drop i) = quoL [] s.data.toList) (hb : Below w.heap.size w w') (ok : Bool) (hok : ok = (s.data.toList.drop (i + 1)).head?.all blkW) :
    QRet s.data.toList w (.returned (.tuple #[.string ⟨acc.toArray⟩, .string (s.extract (i + 1) s.size), .bool ok])) w' := by
  rw [drop_at s i hi, quoL_end h34] at h
  refine ⟨_, _, _, rfl, ⟨fun x y e => ?_, fun e => ?_⟩, hb⟩
  · rw [← h] at e
    split at e
    · rename_i ht
      injection e with e; injection e with e1 e2
      exact ⟨hok.trans ht, by rw [← e1], by rw [extract_drop, e2]⟩
    · cases e
  · rw [← h] at e
    split at e
    · cases e
    · rename_i ht
      rw [hok]; simpa using ht
theorem QRet.good0 {s : ByteArray} {i : Nat} {acc : List UInt8} {w w' : World} (hi : i < s.size) (h34 : (s[i]).toNat = 34) (h : quoL acc (s.data.toList.drop i) = quoL [] s.data.toList) (hb : Below w.heap.size w w') (he : i + 1 = s.size) :
    QRet s.data.toList w (.returned (.tuple #[.string ⟨acc.toArray⟩, .string (s.extract (i + 1) s.size), .bool true])) w' :=
  QRet.good hi h34 h hb true (by rw [drop_end s (i + 1) (by omega)]; rfl)
theorem piece_ok (s : ByteArray) (j : Nat) (hj : j < s.size) (h : 0 < (s.extract j s.size).size) : ((s.extract j s.size).toList.isEmpty || blkW ((s.extract j s.size)[0]'h)) = (s.data.toList.drop j).head?.all blkW := by
  have h1 : (s.extract j s.size).toList = s.data.toList.drop j := by rw [Lib.toList_data, extract_drop]
  have h2 : (s.extract j s.size)[0]'h = s[j] := by
    have a := Lib.data_getElem? (s.extract j s.size) 0 h
    rw [extract_drop, drop_at s j hj] at a
    simpa using a.symm
  rw [h1, h2, drop_at s j hj]; simp
theorem bytes_nil {t : ByteArray} (h : t.data.toList = []) : t = ⟨#[]⟩ := by
  obtain ⟨d⟩ := t
  have : d.toList = [] := h
  rw [Array.toList_eq_nil_iff.1 this]
theorem piece_empty (s : ByteArray) (i : Nat) (h : s.size ≤ i) : s.extract i s.size = ⟨#[]⟩ := bytes_nil (by rw [extract_drop]; exact drop_end s i h)
theorem piece_some (s : ByteArray) (i : Nat) (h : i < s.size) : ¬ s.extract i s.size = ⟨#[]⟩ := fun e => by
  have : (s.extract i s.size).data.toList = [] := by rw [e]
  rw [extract_drop, drop_at s i h] at this
  cases this
set_option maxRecDepth 1000000 in
set_option maxHeartbeats 3200000 in
theorem quoted_any (s : ByteArray) (hs : s.size < 4294967281) (w : World) : Calls Tryz.prog 43 #[.string s] w (QRet s.data.toList w) := by
  have HS0 : Hid (Qst w w.heap.size s.data.toList 0 [] (w.alloc (.cells #[.pointer none, .slice none 0 0] 87))) := Lib.hid
    ⟨Lib.fresh_isBuilder 87 5 w, (Below.refl _ _).alloc (Nat.le_refl _) _, rfl, Nat.le_refl _⟩
  go_enter Tryz.func43, Tryz.ntmps43
  go_wp2
  generalize hb : w.heap.size = b at *
  generalize (w.alloc (.cells #[.pointer none, .slice none 0 0] 87)) = w1 at *
  go_loopg [6] s.size (fun g s6 wx => ∃ (i : Nat) (acc : List UInt8), i + g = s.size ∧ s6 = .int .i64 i ∧ Hid (Qst w b s.data.toList i acc wx))
  case atStart => exact ⟨0, [], by omega, rfl, HS0⟩
  case round =>
    obtain ⟨i, acc, hig, rfl, HR⟩ := hrel
    have hBs : b ≤ wr.heap.size := by rw [← hb]; exact HR.out.below.size
    cases gk with
    | zero =>
      have c0 : ¬ (i : Int) < (s.size : Int) := by omega
      have HF := Lib.hid (show quoL [] s.data.toList = none by rw [← HR.out.eq, drop_end s i (by omega)]; rfl)
      go_wp2
      go_ret3
      exact QRet.bad HF.out (hb ▸ HR.out.below)
    | succ g =>
      have hi : i < s.size := by omega
      have c0 : (i : Int) < (s.size : Int) := by omega
      have hd := Lib.hid (drop_at s i hi)
      by_cases h34 : (s[i]).toNat = 34
      · have c1 : (((s[i]).toNat : Int) == 34) = true := by simp; omega
        have HSt := Lib.hid (Tryz.Builder_String_any b b acc wr HR.out.own hBs)
        by_cases he : i + 1 = s.size
        · have hz : (s.extract (i + 1) s.size == (⟨#[]⟩ : ByteArray)) = true := by rw [piece_empty s (i + 1) (by omega)]; rfl
          have HF := Lib.hid (fun w' hb' => QRet.good0 (w := w) (w' := w') hi h34 HR.out.eq hb' he)
          rw [piece_empty s (i + 1) (by omega)] at HF
          go_wp2_with (go_at_call 66; refine HSt.out.mono ?_; rintro e w2 ⟨rfl, hb2⟩)
          go_ret3
          exact HF.out _ (hb ▸ HR.out.below.trans hb2)
        · have he1 : i + 1 < s.size := by omega
          have hz : ¬ (s.extract (i + 1) s.size).toList = [] := fun e => piece_some s _ he1 (bytes_nil (by rw [← Lib.toList_data]; exact e))
          have HF := Lib.hid (fun w' hb' => QRet.good (w := w) (w' := w') hi h34 HR.out.eq hb')
          go_wp2_with (first
            | (go_at_call 66; refine HSt.out.mono ?_; rintro e w2 ⟨rfl, hb2⟩)
            | (go_at_call 42; refine (blank_any _ _).mono ?_; rintro e w3 ⟨rfl, rfl⟩))
          go_ret3
          exact HF.out _ (hb ▸ HR.out.below.trans hb2) _ (piece_ok s (i + 1) he1 _)
      have c1 : (((s[i]).toNat : Int) == 34) = false := by simp; omega
      have hstep : ∀ (x : UInt8) (c : Int) (j : Nat) (wx w' : World), c = x.toNat → Qst w b s.data.toList i acc wx → i < j → quoL acc (s.data.toList.drop i) = quoL (acc ++ [x]) (s.data.toList.drop j) →
          Lib.BuilderAt 87 5 b b (.pointer (some ⟨b, 0, none⟩)) (Lib.byteCells acc ++ [.int .u8 c]) w' → Below b wx w' → Qst w b s.data.toList j (acc ++ [x]) w' := fun x c j wx w' hc h hj he ho hbw =>
        ⟨.inr (by rw [Lib.byteCells_append]; subst hc; exact ho), h.below.trans hbw, he.symm.trans h.eq, by have := h.len; simp; omega⟩
      have HST := Lib.hid hstep
      have HW := Lib.hid (fun (c : Int) => write_byte b b (Lib.byteCells acc) c wr HR.out.own (by rw [Lib.byteCells_length]; have := HR.out.len; omega) hBs)
      clear hstep
      by_cases h92 : (s[i]).toNat = 92
      · have c2 : (((s[i]).toNat : Int) == 92) = true := by simp; omega
        by_cases he : i + 1 = s.size
        · have HF := Lib.hid (show quoL [] s.data.toList = none by rw [← HR.out.eq, hd.out, drop_end s (i + 1) (by omega), quoL_cut h92])
          go_wp2
          go_ret3
          exact QRet.bad HF.out (hb ▸ HR.out.below)
        · have he1 : i + 1 < s.size := by omega
          have c3 : ¬ (s.size : Int) ≤ (i : Int) + 1 := by omega
          have hd1 := Lib.hid (drop_at s (i + 1) he1)
          by_cases hk : (s[i + 1]).toNat = 34 ∨ (s[i + 1]).toNat = 92
          · have HQ := Lib.hid (show quoL acc (s.data.toList.drop i) = quoL (acc ++ [s[i + 1]]) (s.data.toList.drop (i + 1 + 1)) by rw [hd.out, hd1.out, quoL_esc h92 hk])
            rcases hk with hk | hk
            · have c4 : (((s[i + 1]).toNat : Int) != 34) = false := by simp; omega
              go_wp2_with (go_at_call 92; refine (HW.out 34).mono ?_; rintro e w2 ⟨rfl, ho, hb2⟩)
              go_roundg (g - 1)
              case measure => omega
              case rel => exact ⟨i + 1 + 1, _, by omega, by first | (simp; done) | (simp; omega), Lib.hid (HST.out _ _ _ _ _ (by simp [hk]) HR.out (by omega) HQ.out ho hb2)⟩
            · have c4 : (((s[i + 1]).toNat : Int) != 34) = true := by simp; omega
              have c5 : (((s[i + 1]).toNat : Int) != 92) = false := by simp; omega
              go_wp2_with (go_at_call 92; refine (HW.out 92).mono ?_; rintro e w2 ⟨rfl, ho, hb2⟩)
              go_roundg (g - 1)
              case measure => omega
              case rel => exact ⟨i + 1 + 1, _, by omega, by first | (simp; done) | (simp; omega), Lib.hid (HST.out _ _ _ _ _ (by simp [hk]) HR.out (by omega) HQ.out ho hb2)⟩
          · have HF := Lib.hid (show quoL [] s.data.toList = none by rw [← HR.out.eq, hd.out, hd1.out, quoL_noesc h92 hk])
            have c4 : (((s[i + 1]).toNat : Int) != 34) = true := by simp; omega
            have c5 : (((s[i + 1]).toNat : Int) != 92) = true := by simp; omega
            go_wp2
            go_ret3
            exact QRet.bad HF.out (hb ▸ HR.out.below)
      have c2 : (((s[i]).toNat : Int) == 92) = false := by simp; omega
      by_cases hc : (s[i]).toNat < 32 ∧ (s[i]).toNat ≠ 9
      · have HF := Lib.hid (show quoL [] s.data.toList = none by rw [← HR.out.eq, hd.out, quoL_bad hc])
        have c3 : ((s[i]).toNat : Int) < 32 := by omega
        have c4 : (((s[i]).toNat : Int) != 9) = true := by simp; omega
        go_wp2
        go_ret3
        exact QRet.bad HF.out (hb ▸ HR.out.below)
      · have HQ := Lib.hid (show quoL acc (s.data.toList.drop i) = quoL (acc ++ [s[i]]) (s.data.toList.drop (i + 1)) by rw [hd.out, quoL_step h34 h92 hc])
        by_cases h32 : (s[i]).toNat < 32
        · have c3 : ((s[i]).toNat : Int) < 32 := by omega
          have c4 : (((s[i]).toNat : Int) != 9) = false := by simp; omega
          go_wp2_with (go_at_call 92; refine (HW.out _).mono ?_; rintro e w2 ⟨rfl, ho, hb2⟩)
          go_roundg g
          case measure => omega
          case rel => exact ⟨i + 1, _, by omega, by first | (simp; done) | (simp; omega), Lib.hid (HST.out _ _ _ _ _ rfl HR.out (by omega) HQ.out ho hb2)⟩
        · have c3 : ¬ ((s[i]).toNat : Int) < 32 := by omega
          go_wp2_with (go_at_call 92; refine (HW.out _).mono ?_; rintro e w2 ⟨rfl, ho, hb2⟩)
          go_roundg g
          case measure => omega
          case rel => exact ⟨i + 1, _, by omega, by first | (simp; done) | (simp; omega), Lib.hid (HST.out _ _ _ _ _ rfl HR.out (by omega) HQ.out ho hb2)⟩
end Go.Proofs.Cw
