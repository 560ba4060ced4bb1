/- options: the program's Quote. -/
import Derived.Test.YtbegpgheikibjaaGreatDoorPrCwD
namespace Go.Proofs.Cw
open Go Go.RowKit Go.Proofs.Sa Go.Pl
/-- The variable that strings.Index looks at. -/
def Cst (w : World) : Prop := ∃ m, w.cell? ⟨2, 0, none⟩ = some (.int .i64 m)
theorem Cst.kept {w w' : World} (h : Cst w) (hb : Below w.heap.size w w') : Cst w' := by
  obtain ⟨m, hm⟩ := h
  exact ⟨m, (hb.cell (World.block_lt_of_cell? _ _ hm)).trans hm⟩
/-- What Quote answers, either side. -/
def TRet (l : List UInt8) (w : World) (e : Ending) (w' : World) : Prop :=
  ∃ a k, e = .returned (.tuple #[.string a, .int .i64 k]) ∧ a.data.toList = (quoteR l).1 ∧ k = (quoteR l).2 ∧ Below w.heap.size w w'
theorem TRet.bad {l : List UInt8} {w w' : World} (h : l.any ctl = true) (hb : Below w.heap.size w w') : TRet l w (.returned (.tuple #[.string ⟨#[]⟩, .int .i64 3])) w' :=
  ⟨_, _, rfl, by rw [quoteR_bad h], by rw [quoteR_bad h], hb⟩
theorem TRet.bare {s : ByteArray} {w w' : World} (h : s.data.toList.any ctl = false) (h2 : bareQ s.data.toList = true) (hb : Below w.heap.size w w') : TRet s.data.toList w (.returned (.tuple #[.string s, .int .i64 0])) w' :=
  ⟨_, _, rfl, by rw [quoteR_bare h h2], by rw [quoteR_bare h h2], hb⟩
theorem TRet.quoted {l : List UInt8} {a : ByteArray} {w w' : World} (h : l.any ctl = false) (h2 : bareQ l = false) (ha : a.data.toList = [34] ++ escL l ++ [34]) (hb : Below w.heap.size w w') : TRet l w (.returned (.tuple #[.string a, .int .i64 0])) w' :=
  ⟨_, _, rfl, by rw [quoteR_in h h2]; exact ha, by rw [quoteR_in h h2], hb⟩
def preQ (l : List UInt8) : Bool := !l.isEmpty && l.headD 0 != 35
theorem bareQ_all (l : List UInt8) : bareQ l = (preQ l && l.all plainC) := rfl
theorem ctl_of (c : UInt8) : ctl c = (decide (c.toNat < 32) && decide (c.toNat ≠ 9)) := by
  unfold ctl
  congr 1
  by_cases h : c.toNat = 9
  · have : c = 9 := UInt8.toNat_inj.1 (by rw [h]; rfl)
    subst this; rfl
  · have : c ≠ 9 := fun e => h (by rw [e]; rfl)
    simp [this, h]
theorem plainC_of (c : UInt8) : plainC c = (decide (32 < c.toNat) && decide (c.toNat ≠ 34)) := by
  unfold plainC
  congr 1
  by_cases h : c.toNat = 34
  · have : c = 34 := UInt8.toNat_inj.1 (by rw [h]; rfl)
    subst this; rfl
  · have : c ≠ 34 := fun e => h (by rw [e]; rfl)
    simp [this, h]
theorem take_at (s : ByteArray) (i : Nat) (h : i < s.size) : s.data.toList.take (i + 1) = s.data.toList.take i ++ [s[i]] := by
  rw [List.take_add_one, Lib.data_getElem? s i h]; rfl
theorem take_all (s : ByteArray) (i : Nat) (h : s.size ≤ i) : s.data.toList.take i = s.data.toList := List.take_of_length_le (by rw [← Lib.size_eq]; exact h)
/-- What holds ahead of a round. -/
structure Pst (l : List UInt8) (i : Nat) (b : Bool) : Prop where
  noctl : (l.take i).any ctl = false
  bare : b = (preQ l && (l.take i).all plainC)
theorem Pst.next {s : ByteArray} {i : Nat} {b b' : Bool} (h : Pst s.data.toList i b) (hi : i < s.size) (hc : ctl s[i] = false) (hb : b' = (b && plainC s[i])) : Pst s.data.toList (i + 1) b' :=
  ⟨by rw [take_at s i hi, List.any_append, h.noctl]; simp [hc], by rw [take_at s i hi, List.all_append, hb, h.bare]; simp [Bool.and_assoc]⟩
theorem Pst.stop {s : ByteArray} {i : Nat} (hi : i < s.size) (hc : ctl s[i] = true) : s.data.toList.any ctl = true :=
  List.any_eq_true.2 ⟨s[i], List.mem_of_getElem? (Lib.data_getElem? s i hi), hc⟩
theorem Pst.fin {s : ByteArray} {i : Nat} {b : Bool} (h : Pst s.data.toList i b) (hi : s.size ≤ i) : s.data.toList.any ctl = false ∧ bareQ s.data.toList = b := by
  obtain ⟨h1, h2⟩ := h
  rw [take_all s i hi] at h1 h2
  exact ⟨h1, by rw [bareQ_all, h2]⟩
theorem pre_empty {s : ByteArray} (h : s.toList = []) : Pst s.data.toList 0 false := ⟨rfl, by rw [Lib.toList_data] at h; rw [h]; rfl⟩
theorem pre_head {s : ByteArray} (h : 0 < s.size) (b : Bool) (hb : b = decide (s[0].toNat ≠ 35)) : Pst s.data.toList 0 b := by
  refine ⟨rfl, ?_⟩
  have hd := drop_at s 0 h
  rw [List.drop_zero] at hd
  rw [hd, hb]
  by_cases h35 : s[0].toNat = 35
  · have : s[0] = 35 := UInt8.toNat_inj.1 (by rw [h35]; rfl)
    simp [preQ, this]
  · have : s[0] ≠ 35 := fun e => h35 (by rw [e]; rfl)
    simp [preQ, this, h35]
theorem bytes_ext {a b : ByteArray} (h : a.data.toList = b.data.toList) : a = b := by
  obtain ⟨x⟩ := a; obtain ⟨y⟩ := b
  congr 1; exact Array.toList_inj.1 h
theorem app_list (a b : ByteArray) : (a ++ b).data.toList = a.data.toList ++ b.data.toList := by simp
theorem rep_len (l : List UInt8) : (Lib.replaceAll l [92] [92, 92]).length ≤ 2 * l.length := by
  rw [replace_one 92 [92, 92] (by decide)]
  induction l with
  | nil => simp
  | cons c l ih =>
    rw [List.flatMap_cons, List.length_append]
    split <;> simp at ih ⊢ <;> omega
set_option maxRecDepth 1000000 in
set_option maxHeartbeats 3200000 in
theorem quote_any (s : ByteArray) (hs : s.size ≤ 1048576) (w : World) (hc : Cst w) : Calls Tryz.prog 19 #[.string s] w (TRet s.data.toList w) := by
  have HC := Lib.hid hc
  clear hc
  have HSZ := Lib.hid (Lib.size_eq s)
  go_enter Tryz.func19, Tryz.ntmps19
  go_upto_region 1 with fail
  go_cut [4] (fun s4 wx => ∃ b, s4 = .bool b ∧ wx = w ∧ Hid (Pst s.data.toList 0 b))
  case first =>
    by_cases h0 : s.toList = []
    · have HP := Lib.hid (pre_empty h0)
      go_wp2
      go_meet
      exact ⟨false, rfl, rfl, HP⟩
    · have hne : s.data.toList ≠ [] := fun e => h0 (by rw [Lib.toList_data]; exact e)
      have hp : 0 < s.size := by
        rw [HSZ.out]; exact List.length_pos_iff.2 hne
      have ht4 : s.toList.isEmpty = false := by simpa using h0
      have c0 : (0 : Int) < (s.size : Int) := by omega
      clear hne
      by_cases h35 : (s[0]).toNat = 35
      · have c1 : (((s[0]).toNat : Int) != 35) = false := by simp; omega
        have HP := Lib.hid (pre_head hp false (by simp [h35]))
        go_wp2
        go_meet
        exact ⟨false, rfl, rfl, HP⟩
      · have c1 : (((s[0]).toNat : Int) != 35) = true := by simp; omega
        have HP := Lib.hid (pre_head hp true (by simp [h35]))
        go_wp2
        go_meet
        exact ⟨true, rfl, rfl, HP⟩
  case rest =>
    obtain ⟨b0, rfl, hwx, HP0⟩ := hcut
    have hwx := hwx.symm
    subst hwx
    go_wp2
    go_loopg [4, 16] s.size (fun g s4 s16 wx => ∃ (i : Nat) (b : Bool), i + g = s.size ∧ s4 = .bool b ∧ s16 = .int .i64 i ∧ wx = w ∧ Hid (Pst s.data.toList i b))
    case atStart => exact ⟨0, b0, by omega, rfl, rfl, rfl, HP0⟩
    case round =>
      obtain ⟨i, b, hig, rfl, rfl, hwx, HP⟩ := hrel
      have hwx := hwx.symm
      subst hwx
      cases gk with
      | zero =>
        have c0 : ¬ (i : Int) < (s.size : Int) := by omega
        obtain ⟨hF1, hF2⟩ := HP.out.fin (by omega)
        cases b with
        | true =>
          have HF := Lib.hid (fun w' hb => TRet.bare (w := w) (w' := w') hF1 hF2 hb)
          clear hF1 hF2
          go_wp2
          go_ret2
          exact HF.out _ (Below.refl _ _)
        | false =>
          have HF := Lib.hid (fun a w' ha hb => TRet.quoted (a := a) (w := w) (w' := w') hF1 hF2 ha hb)
          clear hF1 hF2
          have hl1 := rep_len s.data.toList
          have hl2 := Lib.count_le s.data.toList [92]
          obtain ⟨m, hm⟩ := HC.out
          have HA1 : Hid (Calls Tryz.prog 46 #[.string s, .string ⟨#[92]⟩, .string ⟨#[92, 92]⟩] w fun e w' => e = .returned (.string ⟨(Lib.replaceAll s.data.toList [92] [92, 92]).toArray⟩) ∧ Below w.heap.size w w') :=
            Lib.hid (Tryz.strings_ReplaceAll s ⟨#[92]⟩ ⟨#[92, 92]⟩ m w (by omega) hm (by decide) (by
              have e1 : Lib.countB s ⟨#[92]⟩ = Lib.count s.data.toList [92] := rfl
              have e2 : (⟨#[92, 92]⟩ : ByteArray).size = 2 := rfl
              rw [e1, e2]; have := HSZ.out; omega))
          have HX := Lib.hid (escL_twice s.data.toList)
          generalize Lib.replaceAll s.data.toList [92] [92, 92] = x1 at *
          have hl3 := Lib.count_le x1 [34]
          have HA2 : Hid (∀ w', Below w.heap.size w w' → Calls Tryz.prog 46 #[.string ⟨x1.toArray⟩, .string ⟨#[34]⟩, .string ⟨#[92, 34]⟩] w' fun e w2 => e = .returned (.string ⟨(escL s.data.toList).toArray⟩) ∧ Below w'.heap.size w' w2) := Lib.hid fun w' hb => by
            obtain ⟨m', hm'⟩ := HC.out.kept hb
            have e0 : (⟨x1.toArray⟩ : ByteArray).size = x1.length := by rw [Lib.size_eq]
            have h := Tryz.strings_ReplaceAll ⟨x1.toArray⟩ ⟨#[34]⟩ ⟨#[92, 34]⟩ m' w' (by rw [e0]; have := HSZ.out; omega) hm' (by decide) (by
              have e1 : Lib.countB ⟨x1.toArray⟩ ⟨#[34]⟩ = Lib.count x1 [34] := rfl
              have e2 : (⟨#[92, 34]⟩ : ByteArray).size = 2 := rfl
              rw [e0, e1, e2]; have := HSZ.out; omega)
            have e3 : Lib.replaceAll (⟨x1.toArray⟩ : ByteArray).data.toList (⟨#[34]⟩ : ByteArray).data.toList (⟨#[92, 34]⟩ : ByteArray).data.toList = escL s.data.toList := HX.out
            rw [e3] at h
            exact h
          have hl4 := escL_len s.data.toList
          have k0 : ¬ 9223372036854775807 < 1 + (escL s.data.toList).length := by have := HSZ.out; omega
          have k1 : ¬ 9223372036854775807 < 1 + (escL s.data.toList).length + 1 := by have := HSZ.out; omega
          clear hm hl1 hl2 hl3 hl4
          go_wp2_with (first
            | (go_at_call 46; with_reducible refine HA1.out.mono ?_; rintro e w2 ⟨rfl, hb2⟩; have HB2 := Lib.hid hb2; clear hb2)
            | (go_at_call 46; with_reducible refine (HA2.out _ HB2.out).mono ?_; rintro e w3 ⟨rfl, hb3⟩; have HB3 := Lib.hid hb3; clear hb3))
          go_ret2
          exact HF.out _ _ (by rw [app_list, app_list]) (below_step HB2.out HB3.out)
      | succ g =>
        have hi : i < s.size := by omega
        have c0 : (i : Int) < (s.size : Int) := by omega
        by_cases hct : (s[i]).toNat < 32 ∧ (s[i]).toNat ≠ 9
        · have HF := Lib.hid (Pst.stop hi (by rw [ctl_of]; simp [hct]))
          have c1 : ((s[i]).toNat : Int) < 32 := by omega
          have c2 : (((s[i]).toNat : Int) != 9) = true := by simp; omega
          go_wp2
          go_ret2
          exact TRet.bad HF.out (Below.refl _ _)
        have hnc : ctl s[i] = false := by rw [ctl_of]; simp; omega
        have HN := Lib.hid (fun b' hb => HP.out.next (b' := b') hi hnc hb)
        clear hnc
        cases b with
        | false =>
          by_cases h32 : (s[i]).toNat < 32
          · have c1 : ((s[i]).toNat : Int) < 32 := by omega
            have c2 : (((s[i]).toNat : Int) != 9) = false := by simp; omega
            go_wp2
            go_roundg g
            case measure => omega
            case rel => exact ⟨i + 1, false, by omega, rfl, by first | (simp; done) | (simp; omega), rfl, Lib.hid (HN.out false rfl)⟩
          · have c1 : ¬ ((s[i]).toNat : Int) < 32 := by omega
            go_wp2
            go_roundg g
            case measure => omega
            case rel => exact ⟨i + 1, false, by omega, rfl, by first | (simp; done) | (simp; omega), rfl, Lib.hid (HN.out false rfl)⟩
        | true =>
          by_cases h32 : (s[i]).toNat < 32
          · have h9 : (s[i]).toNat = 9 := by omega
            have c1 : ((s[i]).toNat : Int) < 32 := by omega
            have c2 : (((s[i]).toNat : Int) != 9) = false := by simp; omega
            have c3 : ¬ (32 : Int) < ((s[i]).toNat : Int) := by omega
            have HN2 := Lib.hid (HN.out false (by rw [plainC_of]; simp [h9]))
            clear h9
            go_wp2
            go_roundg g
            case measure => omega
            case rel => exact ⟨i + 1, false, by omega, rfl, by first | (simp; done) | (simp; omega), rfl, HN2⟩
          have c1 : ¬ ((s[i]).toNat : Int) < 32 := by omega
          by_cases h33 : 32 < (s[i]).toNat
          · have c3 : (32 : Int) < ((s[i]).toNat : Int) := by omega
            by_cases h34 : (s[i]).toNat = 34
            · have c4 : (((s[i]).toNat : Int) != 34) = false := by simp; omega
              have HN2 := Lib.hid (HN.out false (by rw [plainC_of]; simp [h34]))
              go_wp2
              go_roundg g
              case measure => omega
              case rel => exact ⟨i + 1, false, by omega, rfl, by first | (simp; done) | (simp; omega), rfl, HN2⟩
            · have c4 : (((s[i]).toNat : Int) != 34) = true := by simp; omega
              have HN2 := Lib.hid (HN.out true (by rw [plainC_of]; simp [h34, h33]))
              go_wp2
              go_roundg g
              case measure => omega
              case rel => exact ⟨i + 1, true, by omega, rfl, by first | (simp; done) | (simp; omega), rfl, HN2⟩
          · have c3 : ¬ (32 : Int) < ((s[i]).toNat : Int) := by omega
            have HN2 := Lib.hid (HN.out false (by rw [plainC_of]; simp [h33]))
            go_wp2
            go_roundg g
            case measure => omega
            case rel => exact ⟨i + 1, false, by omega, rfl, by first | (simp; done) | (simp; omega), rfl, HN2⟩
end Go.Proofs.Cw
