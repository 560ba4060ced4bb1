/- secrets: the law SecretRemarks walked. -/
import Derived.Lib.AppendStr
import Derived.Test.YtnadimjglkodkaaDoorPrTdU
import Derived.Test.YtnadimjglkodkaaDoorPrSmQ
namespace Go.Proofs.Sr
open Go Go.RowKit Go.Pl Go.Proofs.Sa Go.Maps Go.Proofs.Pt
theorem lineS_err_ne {s : List UInt8} {k : Int} (h : lineS s = .error k) : k ≠ 0 := by
  unfold lineS at h
  split at h
  · cases h; decide
  · split at h
    · cases h; decide
    · cases h
    · cases h; decide
    · cases h; decide
    · split at h
      · rename_i hy
        cases h; exact hy
      · cases h
theorem parseS_err_ne : ∀ (ls : List (List UInt8)) (i : Nat) (acc : List Said) {k : Int} {j : Nat}, parseS i ls acc = .error (k, j) → k ≠ 0
  | [], i, acc, k, j, h => by simp [parseS] at h
  | s :: ls, i, acc, k, j, h => by
    unfold parseS at h
    cases hl : lineS s with
    | error e =>
      rw [hl] at h
      simp only [Except.error.injEq, Prod.mk.injEq] at h
      rw [← h.1]; exact lineS_err_ne hl
    | ok o =>
      rw [hl] at h
      cases o with
      | none => exact parseS_err_ne ls _ _ h
      | some x => exact parseS_err_ne ls _ _ h
theorem parseT_err_ne {l : List UInt8} {k : Int} {i : Nat} (h : parseT l = .error (k, i)) : k ≠ 0 := by
  unfold parseT at h
  split at h
  · simp only [Except.error.injEq, Prod.mk.injEq] at h
    rw [← h.1]; decide
  · cases hp : parseS 0 (cutAt 10 l) [] with
    | error e =>
      rw [hp] at h
      obtain ⟨k', j⟩ := e
      simp only [Except.error.injEq, Prod.mk.injEq] at h
      rw [← h.1]; exact parseS_err_ne _ _ _ hp
    | ok out =>
      rw [hp] at h
      simp only at h
      split at h
      · simp only [Except.error.injEq, Prod.mk.injEq] at h
        rw [← h.1]; decide
      · cases h
theorem parseT_ok_len {l : List UInt8} {out : List Said} (h : parseT l = .ok out) : l.length ≤ 65536 := by
  unfold parseT at h
  split at h
  · cases h
  · omega
/-- Bytes that are gathered. -/
structure Byd (B : Nat) (w0 : World) (acc : List UInt8) (v : Value) (wx : World) : Prop where
  own : wx.ownsRow B 5 1 v acc.length (Lib.byteCells acc)
  below : Below B w0 wx
  le : B ≤ wx.heap.size
theorem strCells_byte (s : ByteArray) : Lib.strCells s = Lib.byteCells s.data.toList := rfl
theorem Byd.str {B : Nat} {w0 : World} {acc : List UInt8} {v v' : Value} {wx w3 : World} {s : List UInt8} (h : Byd B w0 acc v wx) (hown : w3.ownsRow B 5 1 v' (acc.length + s.length) (Lib.byteCells acc ++ Lib.byteCells s)) (hg : wx.grownBy w3 v.ownBlock) : Byd B w0 (acc ++ s) v' w3 :=
  ⟨by rw [Lib.byteCells_append, List.length_append]; exact hown, h.below.grown hg h.le (fun k hk => (h.own.lt k hk).1), by have := hg.size; have := h.le; omega⟩
theorem Byd.next {B : Nat} {w0 : World} {acc : List UInt8} {v v' : Value} {wx w3 : World} {x : UInt8} {c : Int} {o : Obj} (h : Byd B w0 acc v wx) (hc : c = x.toNat) (hown : w3.ownsRow B 5 1 v' (acc.length + 1) (Lib.byteCells acc ++ [.int .u8 c])) (hg : (wx.alloc o).grownBy w3 v.ownBlock) : Byd B w0 (acc ++ [x]) v' w3 :=
  ⟨by rw [Lib.byteCells_append]; subst hc; rw [List.length_append]; exact hown, (h.below.alloc h.le o).grown hg (by have := h.le; simp; omega) (fun k hk => (h.own.lt k hk).1), by have := hg.size; have := h.le; simp at *; omega⟩
theorem mod_four (z : Int) : ∃ kk : Nat, kk < 4 ∧ Int.tmod (wrap64 (Int.tmod z 4 + 4)) 4 = (kk : Int) := by
  have h1 := Int.lt_tmod_of_pos z (b := 4) (by decide)
  have h2 := Int.tmod_lt_of_pos z (b := 4) (by decide)
  have e2 : wrap64 (Int.tmod z 4 + 4) = Int.tmod z 4 + 4 := by unfold wrap64; omega
  rw [e2, Int.tmod_eq_emod_of_nonneg (by omega)]
  exact ⟨((Int.tmod z 4 + 4) % 4).toNat, by omega, by omega⟩
set_option maxRecDepth 1000000 in
set_option maxHeartbeats 6400000 in
theorem remarks_law (s : ByteArray) (wo : Option Addr) (wn wc0 : Nat) (zs : List Int) (t : TypeId) (pv : Value) (w : World) (hV : Env w t pv) (hI : Ints w wo wn zs) (hA : ∀ w', Below w.heap.size w w' → Calls Tryd.prog 23 #[] w' fun e w2 => e = .returned (.bool true) ∧ Below w'.heap.size w' w2) :
    Calls Tryd.prog 6 #[.string s, .slice wo wn wc0] w fun e w' => e = .returned (.bool true) ∧ Below w.heap.size w w' := by
  have HV := Lib.hid hV
  have HA := Lib.hid hA
  have HI := Lib.hid hI
  have HSZ := Lib.hid (Lib.size_eq s)
  have HP := Lib.hid (fun s w (h : Env w t pv) => parse_any s t pv w h)
  have HOut := Lib.hid (out_small s.data.toList)
  clear hV hA hI
  cases hp : parseT s.data.toList with
  | error ki =>
    obtain ⟨k, i⟩ := ki
    have hk : k ≠ 0 := parseT_err_ne hp
    have hk0 : (k != 0) = true := by simpa using hk
    have HPa := Lib.hid hp
    clear hp
    go_enter Tryd.func6, Tryd.ntmps6
    go_wp2_with (first
      | (go_at_call 22; go_loud (refine (HP.out _ _ HV.out).mono ?_; rintro e w1 h1; have hb := h1.2.2; obtain rfl := h1.2.1 _ _ HPa.out; have HB1 := Lib.hid hb; clear h1 hb))
      | (go_at_call 23; go_loud (refine (HA.out _ HB1.out).mono ?_; rintro e w2 ⟨rfl, hb2⟩; have HB2 := Lib.hid (below_step HB1.out hb2); clear hb2)))
    go_ret
    exact ⟨rfl, HB2.out⟩
  | ok out =>
  have hs64 : s.size ≤ 65536 := by rw [HSZ.out]; exact parseT_ok_len hp
  obtain ⟨xs, hxs⟩ := parse_says hp
  have HPa := Lib.hid hp
  have HXs := Lib.hid hxs
  clear hp hxs
  go_enter Tryd.func6, Tryd.ntmps6
  go_upto_region 8 with (go_at_call 22; go_loud (refine (HP.out _ _ HV.out).mono ?_; rintro e w1 h1; have hb := h1.2.2; obtain ⟨v1, l1, rfl, hl1, hf1⟩ := h1.1 _ HPa.out; obtain ⟨ao1, cap1, rfl⟩ := own_slice hf1.own; have HB1 := Lib.hid hb; have HL1 := Lib.hid hl1; have HF1 := Lib.hid hf1; clear h1 hb hl1 hf1))
  generalize hB : w1.heap.size = g0 at *
  obtain ⟨w2, hw2⟩ : ∃ w2, ((w1.alloc (.cells #[.string ⟨#[]⟩, .string ⟨#[10]⟩, .string ⟨#[35, 32, 97, 32, 34, 114, 101, 109, 97, 114, 107, 10]⟩, .string ⟨#[32, 9, 13, 10]⟩] 9)).alloc (.cells #[.string ⟨#[]⟩, .string ⟨#[32]⟩, .string ⟨#[9, 13]⟩, .string ⟨#[32, 35, 32, 120]⟩] 9)) = w2 := ⟨_, rfl⟩
  have hsz2 : w2.heap.size = g0 + 2 := by rw [← hw2]; simp; omega
  have HCl : Hid (∀ k, k < 4 → w2.cell? ⟨g0, k, none⟩ = some (.string ⟨(lineK k).toArray⟩)) := Lib.hid fun k hk => by
    rw [← hw2]
    obtain rfl | rfl | rfl | rfl : k = 0 ∨ k = 1 ∨ k = 2 ∨ k = 3 := by omega
    all_goals (rw [← hB]; refine (((Below.refl _ _).alloc (Nat.le_refl _) _).cell (by simp)).trans ?_)
    · exact cell_four_new w1 (.string ⟨#[]⟩) (.string ⟨#[10]⟩) (.string ⟨#[35, 32, 97, 32, 34, 114, 101, 109, 97, 114, 107, 10]⟩) (.string ⟨#[32, 9, 13, 10]⟩) 9 0 _ rfl
    · exact cell_four_new w1 (.string ⟨#[]⟩) (.string ⟨#[10]⟩) (.string ⟨#[35, 32, 97, 32, 34, 114, 101, 109, 97, 114, 107, 10]⟩) (.string ⟨#[32, 9, 13, 10]⟩) 9 1 _ rfl
    · exact cell_four_new w1 (.string ⟨#[]⟩) (.string ⟨#[10]⟩) (.string ⟨#[35, 32, 97, 32, 34, 114, 101, 109, 97, 114, 107, 10]⟩) (.string ⟨#[32, 9, 13, 10]⟩) 9 2 _ rfl
    · exact cell_four_new w1 (.string ⟨#[]⟩) (.string ⟨#[10]⟩) (.string ⟨#[35, 32, 97, 32, 34, 114, 101, 109, 97, 114, 107, 10]⟩) (.string ⟨#[32, 9, 13, 10]⟩) 9 3 _ rfl
  have HCe : Hid (∀ k, k < 4 → w2.cell? ⟨g0 + 1, k, none⟩ = some (.string ⟨(endK k).toArray⟩)) := Lib.hid fun k hk => by
    rw [← hw2]
    obtain rfl | rfl | rfl | rfl : k = 0 ∨ k = 1 ∨ k = 2 ∨ k = 3 := by omega
    all_goals (have hs1 : (w1.alloc (.cells #[.string ⟨#[]⟩, .string ⟨#[10]⟩, .string ⟨#[35, 32, 97, 32, 34, 114, 101, 109, 97, 114, 107, 10]⟩, .string ⟨#[32, 9, 13, 10]⟩] 9)).heap.size = g0 + 1 := by simp [hB])
    all_goals rw [← hs1]
    · exact cell_four_new (w1.alloc _) (.string ⟨#[]⟩) (.string ⟨#[32]⟩) (.string ⟨#[9, 13]⟩) (.string ⟨#[32, 35, 32, 120]⟩) 9 0 _ rfl
    · exact cell_four_new (w1.alloc _) (.string ⟨#[]⟩) (.string ⟨#[32]⟩) (.string ⟨#[9, 13]⟩) (.string ⟨#[32, 35, 32, 120]⟩) 9 1 _ rfl
    · exact cell_four_new (w1.alloc _) (.string ⟨#[]⟩) (.string ⟨#[32]⟩) (.string ⟨#[9, 13]⟩) (.string ⟨#[32, 35, 32, 120]⟩) 9 2 _ rfl
    · exact cell_four_new (w1.alloc _) (.string ⟨#[]⟩) (.string ⟨#[32]⟩) (.string ⟨#[9, 13]⟩) (.string ⟨#[32, 35, 32, 120]⟩) 9 3 _ rfl
  have HB2 : Hid (Below w.heap.size w w2) := Lib.hid (by
    rw [← hw2]
    exact (HB1.out.alloc HB1.out.size _).alloc (by have := HB1.out.size; simp; omega) _)
  have HBt : Hid (Byd (g0 + 2) w2 [] (.slice none 0 0) w2) := Lib.hid ⟨World.ownsRow_nil _ _ _ _, Below.refl _ _, by omega⟩
  have HKeep : Hid (∀ b v wx, Byd (g0 + 2) w2 b v wx → (∀ k, k < 4 → wx.cell? ⟨g0, k, none⟩ = some (.string ⟨(lineK k).toArray⟩)) ∧ (∀ k, k < 4 → wx.cell? ⟨g0 + 1, k, none⟩ = some (.string ⟨(endK k).toArray⟩)) ∧ Below w.heap.size w wx ∧ Ints wx wo wn zs) := Lib.hid fun b v wx h =>
    ⟨fun k hk => (h.below.cell (by show g0 < g0 + 2; omega)).trans (HCl.out k hk), fun k hk => (h.below.cell (by show g0 + 1 < g0 + 2; omega)).trans (HCe.out k hk), HB2.out.trans (h.below.mono (by have := HB2.out.size; omega)), HI.out.kept (HB2.out.trans (h.below.mono (by have := HB2.out.size; omega)))⟩
  have HSt : Hid (Rm s.data.toList 0 ((0 : Nat) : Int) [] [] [] []) := Lib.hid (Rm.start _ _)
  obtain ⟨i5, hi5, hz50, hz51, hz52⟩ := info_parts info5
  have HB12 : Hid (Below g0 w1 w2) := Lib.hid (by
    rw [← hw2, ← hB]
    exact ((Below.refl _ _).alloc (Nat.le_refl _) _).alloc (by simp) _)
  have HSm : Hid (∀ l : List Sec, l.map said = out → l.length ≤ 64 ∧ ∀ w ao n cap base, Frs base (.slice ao n cap) l w → ∀ y ∈ l, y.n ≤ 1048576) := Lib.hid fun l hl => by
    have h1 := HOut.out
    rw [HPa.out] at h1
    simp only [outO] at h1
    refine ⟨by have := congrArg List.length hl; rw [List.length_map] at this; omega, fun w ao n cap base hf y hy => ?_⟩
    have h2 := h1.2 (said y) (by rw [← hl]; exact List.mem_map_of_mem hy)
    have h3 := (hf.ints y hy).1.len
    have h4 : y.zs.length ≤ 16 := h2
    omega
  rw [hw2]
  clear hw2 HCl HCe
  go_wp2
  go_loopg [10, 11, 12, 13] (s.size + 1) (fun g s10 s11 s12 s13 wx => ∃ (i n z : Nat) (b : List UInt8), i + g = s.size + 1 ∧ n ≤ i ∧ z ≤ i ∧ b.length ≤ 17 * i + 33 ∧ s11 = .int .i64 n ∧ s12 = .int .i64 z ∧ s13 = .int .i64 i ∧ Hid (Byd (g0 + 2) w2 b s10 wx) ∧ Hid ((i ≤ s.size → ∃ L cur M, Rm s.data.toList i z b L cur M) ∧ (s.size < i → says (cutAt 10 b) = some xs)))
  case atStart => exact ⟨0, 0, 0, [], by omega, Nat.le_refl _, Nat.le_refl _, Nat.zero_le _, rfl, rfl, rfl, HBt, Lib.hid ⟨fun _ => ⟨_, _, _, HSt.out⟩, fun h => by omega⟩⟩
  case round =>
  obtain ⟨i, n, z, b, hig, hni, hzi, hbl, rfl, rfl, rfl, HQ, HR⟩ := hrel
  by_cases his : i ≤ s.size
  case neg =>
    have d0 : ¬ (i : Int) ≤ (s.size : Int) := by omega
    have HX := Lib.hid (HR.out.2 (by omega))
    have HKp := Lib.hid (HKeep.out _ _ _ HQ.out)
    obtain ⟨ao2, cap2, rfl⟩ := own_slice HQ.out.own
    by_cases hb : 65536 < b.length
    · have d1 : (65536 : Int) < (b.length : Int) := by omega
      go_wp2_with (go_at_call 23; go_loud (refine (HA.out _ HKp.out.2.2.1).mono ?_; rintro e w7 ⟨rfl, hb7⟩; have HB7 := Lib.hid (below_step HKp.out.2.2.1 hb7); clear hb7))
      go_ret
      exact ⟨rfl, HB7.out⟩
    have d1 : ¬ (65536 : Int) < (b.length : Int) := by omega
    have HPb : Hid (parseT b = .ok out) := Lib.hid (parse_dressed HPa.out (by omega) (fun ys hy => by
      rw [HXs.out] at hy
      cases hy
      exact HX.out))
    have hcv := conv_own HQ.out.own
    have HVr := Lib.hid (HV.out.kept HKp.out.2.2.1)
    have HF1r : Hid (Frs w.heap.size (.slice ao1 l1.length cap1) l1 wr) := Lib.hid (by
      have h1 : Below w1.heap.size w1 wr := by
        rw [hB]
        exact HB12.out.trans (HQ.out.below.mono (by omega))
      exact HF1.out.kept h1)
    have HSame : Hid (∀ ao2 cap2 l2 w2, l2.map said = out → Frs wr.heap.size (.slice ao2 l2.length cap2) l2 w2 → Below wr.heap.size wr w2 → Calls Tryd.prog 24 #[.slice ao1 l1.length cap1, .slice ao2 l2.length cap2] w2 fun e w' => e = .returned (.bool true) ∧ Below w2.heap.size w2 w') := Lib.hid fun ao2 cap2 l2 w2 hl hf hb2 => by
      have h1 := HF1r.out.kept hb2
      have := rsame_any ao1 ao2 l1.length cap1 l2.length cap2 l1 l2 w2 (h1.secs rfl) (hf.secs rfl) (by have := (HSm.out l1 HL1.out).1; omega) ((HSm.out l1 HL1.out).2 _ _ _ _ _ h1)
      rwa [said_same l1 l2 (HL1.out.trans hl.symm)] at this
    have HBr := Lib.hid HKp.out.2.2.1
    clear HR HQ HKp
    go_wp2_with (first
      | (go_at_call 22; go_loud (refine (HP.out _ _ HVr.out).mono ?_; rintro e w5 h1; have hb5 := h1.2.2; obtain ⟨v5, l5, rfl, hl5, hf5⟩ := h1.1 _ HPb.out; obtain ⟨ao5, cap5, rfl⟩ := own_slice hf5.own; have HS5 := Lib.hid (HSame.out _ _ _ _ hl5 hf5 hb5); have HB5 := Lib.hid (below_step HBr.out hb5); clear h1 hb5 hl5 hf5))
      | (go_at_call 24; go_loud (refine HS5.out.mono ?_; rintro e w6 ⟨rfl, hb6⟩; have HB6 := Lib.hid (below_step HB5.out hb6); clear hb6))
      | (go_at_call 23; go_loud (refine (HA.out _ HB6.out).mono ?_; rintro e w7 ⟨rfl, hb7⟩; have HB7 := Lib.hid (below_step HB6.out hb7); clear hb7)))
    go_ret
    exact ⟨rfl, HB7.out⟩
  case pos =>
  have d0 : (i : Int) ≤ (s.size : Int) := by omega
  obtain ⟨L, cur, M, hRm⟩ := HR.out.1 his
  have HRm := Lib.hid hRm
  have HKp := Lib.hid (HKeep.out _ _ _ HQ.out)
  clear HR hRm
  cases gk with
  | zero => omega
  | succ g =>
  go_upto_if 43 with fail
  go_cut [14] (fun s14 wx => wx = wr ∧ ∃ kk : Nat, kk < 4 ∧ s14 = .int .i64 kk)
  case first =>
    by_cases hw : n < wn
    case neg =>
      have c1 : ¬ (n : Int) < (wn : Int) := by omega
      go_wp2
      go_meet
      exact ⟨rfl, 0, by omega, rfl⟩
    case pos =>
    have c1 : (n : Int) < (wn : Int) := by omega
    have c2 : (0 : Int) ≤ (n : Int) := by omega
    obtain ⟨wb, wof, rfl, hwb, hwc⟩ := HKp.out.2.2.2.row (by omega)
    have hc := hwc n hw
    obtain ⟨kk, hk4, hkk⟩ := mod_four (zs[n]?.getD 0)
    clear hwc hwb
    go_wp2
    go_meet
    exact ⟨rfl, kk, hk4, rfl⟩
  case rest =>
  obtain ⟨hwx, kk, hk4, rfl⟩ := hcut
  have hwx := hwx.symm
  subst hwx
  obtain ⟨bt, hbt⟩ : ∃ bt : Bool, (decide (cur = []) && decide (i < s.size)) = bt := ⟨_, rfl⟩
  have HBT := Lib.hid hbt
  clear hbt
  go_upto_region 14 with fail
  go_cut [65] (fun s65 wx => wx = wr ∧ s65 = .bool bt)
  case first =>
    by_cases hil : i < s.size
    case neg =>
      have c3 : ¬ (i : Int) < (s.size : Int) := by omega
      have e : bt = false := by rw [← HBT.out]; simp; omega
      subst e
      go_wp2
      go_meet
      exact ⟨rfl, rfl⟩
    case pos =>
    have c3 : (i : Int) < (s.size : Int) := by omega
    by_cases hi0 : i = 0
    · subst hi0
      have hc0 : cur = [] := by
        have := HRm.out.at_
        rw [List.length_append] at this
        exact List.length_eq_zero_iff.1 (by omega)
      have e : bt = true := by rw [← HBT.out, hc0]; simp; omega
      subst e
      go_wp2
      go_meet
      exact ⟨rfl, rfl⟩
    · obtain ⟨x, hx, hx2⟩ := HRm.out.begins hi0
      obtain ⟨j, rfl⟩ : ∃ j, i = j + 1 := ⟨i - 1, by omega⟩
      have c4 : ((((j + 1 : Nat) : Int)) == 0) = false := by simp; omega
      have c5 : (j : Int) < (s.size : Int) := by omega
      have c6 : (0 : Int) ≤ (j : Int) := by omega
      have hjs : j < s.size := by omega
      have hw6 : wrap64 (((j + 1 : Nat) : Int) - 1) = (j : Int) := by unfold wrap64; omega
      rw [Nat.add_sub_cancel, Lib.data_getElem? s j hjs] at hx
      obtain rfl := Option.some.inj hx
      clear hx
      have e : bt = (((s[j]).toNat : Int) == 10) := by
        rw [← HBT.out]
        by_cases hcu : cur = []
        · have := hx2.2 hcu
          rw [this, hcu]; simp; omega
        · have : ¬ s[j] = 10 := fun e => hcu (hx2.1 e)
          have h2 : ¬ (s[j]).toNat = 10 := fun e => this (UInt8.toNat_inj.1 e)
          simp [hcu]
          omega
      have HE := Lib.hid e
      have c7 : (((j : Nat) : Int) + 1 == 0) = false := by simp; omega
      clear e hx2
      go_wp2
      go_meet
      exact ⟨rfl, by rw [HE.out]⟩
  case rest =>
  obtain ⟨hwx, rfl⟩ := hcut
  have hwx := hwx.symm
  subst hwx
  obtain ⟨zz, hzz⟩ : ∃ zz : Nat, (if bt = true then 0 else z) = zz := ⟨_, rfl⟩
  have hzi2 : zz ≤ i := by rw [← hzz]; split <;> omega
  have HRn : Hid (∃ M', Rn s.data.toList i zz (if bt = true then b ++ lineK kk else b) L cur M') := Lib.hid (by
    rw [← hzz]
    cases hb : bt
    · exact ⟨M, HRm.out.stays (by
        have := HBT.out
        rw [hb, Bool.and_eq_false_iff] at this
        rcases this with h | h
        · exact .inl (by simpa using h)
        · exact .inr (by have h := of_decide_eq_false h; have := HSZ.out; omega))⟩
    · have hc0 : cur = [] := by
        have := HBT.out
        rw [hb, Bool.and_eq_true] at this
        exact of_decide_eq_true this.1
      exact HRm.out.ahead hc0 kk)
  go_upto_if 65 with fail
  go_cut [10, 11, 12] (fun s10 s11 s12 wx => ∃ (n' : Nat) (b' : List UInt8), s11 = .int .i64 n' ∧ s12 = .int .i64 zz ∧ n' ≤ i + 1 ∧ Hid (Byd (g0 + 2) w2 b' s10 wx) ∧ Hid (b' = if bt = true then b ++ lineK kk else b))
  case first =>
    cases bt with
    | false =>
      have hz0 : z = zz := hzz
      subst hz0
      go_wp2
      go_meet
      exact ⟨n, b, rfl, rfl, by omega, HQ, Lib.hid rfl⟩
    | true =>
      have hz0 : 0 = zz := hzz
      subst hz0
      have hcl := HKp.out.1 kk hk4
      have hk4' : (kk : Int) < 4 := by omega
      have hk0 : (0 : Int) ≤ (kk : Int) := by omega
      have hll := lineK_len kk
      have hsz : (⟨(lineK kk).toArray⟩ : ByteArray).size = (lineK kk).length := by simp [ByteArray.size]
      go_wp2_with (at_builtin; go_loud (refine Lib.wpList_append_own_string _ rfl _ _ 57 9 rfl (g0 + 2) 5 i5 Tryd.underlying57 Tryd.underlying9 hi5 hz50 hz51 hz52 _ b.length _ rfl HQ.out.own ⟨(lineK kk).toArray⟩ rfl (by rw [hsz]; unfold maxLen; omega) (by rw [hsz]; omega) HQ.out.le ?_; intro v' w3 hown' hgrow' hnil'; have HO := Lib.hid hown'; have HG := Lib.hid hgrow'; clear hown' hgrow' hnil'))
      go_meet
      exact ⟨n + 1, b ++ lineK kk, by simp, rfl, by omega, Lib.hid (HQ.out.str (by have := HO.out; rwa [strCells_byte, hsz] at this) HG.out), Lib.hid rfl⟩
  case rest =>
  obtain ⟨n', b', rfl, rfl, hn', HQ2, HB'⟩ := hcut
  rw [← HB'.out] at HRn
  obtain ⟨M', hRn⟩ := HRn.out
  have HRN := Lib.hid hRn
  have HKp2 := Lib.hid (HKeep.out _ _ _ HQ2.out)
  clear hRn HRn HRm HKp HB' HBT hzz HQ
  obtain ⟨be, hbe⟩ : ∃ be : Bool, (decide (i = s.size) || decide (s.data.toList[i]? = some 10)) = be := ⟨_, rfl⟩
  have HBE := Lib.hid hbe
  clear hbe
  go_upto_region 18 with fail
  go_cut [83] (fun s83 wx => wx = wc ∧ s83 = .bool be)
  case first =>
    by_cases hil : i = s.size
    · have e : be = true := by rw [← HBE.out, decide_eq_true hil]; rfl
      subst e
      subst hil
      go_wp2
      go_meet
      exact ⟨rfl, rfl⟩
    · have c3 : ((i : Int) == (s.size : Int)) = false := by simp; omega
      have c4 : (i : Int) < (s.size : Int) := by omega
      have c5 : (0 : Int) ≤ (i : Int) := by omega
      have hi : i < s.size := by omega
      have e : be = (((s[i]).toNat : Int) == 10) := by
        rw [← HBE.out, decide_eq_false hil, Lib.data_getElem? s i hi, Bool.false_or]
        by_cases h : s[i] = 10
        · rw [h]; simp
        · have h2 : ¬ (s[i]).toNat = 10 := fun e => h (UInt8.toNat_inj.1 e)
          simp [h]; omega
      have HE := Lib.hid e
      clear e
      go_wp2
      go_meet
      exact ⟨rfl, by rw [HE.out]⟩
  case rest =>
  obtain ⟨hwx, rfl⟩ := hcut
  have hwx := hwx.symm
  subst hwx
  go_upto_if 83 with fail
  go_cut [10] (fun s10 wx => Hid (Byd (g0 + 2) w2 (b' ++ if be = true then endZ zz kk else []) s10 wx))
  case first =>
    have HBd := Lib.hid (HRN.out.len)
    cases be with
    | false =>
      go_wp2
      go_meet
      exact Lib.hid (by simpa using HQ2.out)
    | true =>
      by_cases hz8 : (zz : Int) + 8 < 1024
      · have hce := HKp2.out.2.1 kk hk4
        have hk4' : (kk : Int) < 4 := by omega
        have hk0 : (0 : Int) ≤ (kk : Int) := by omega
        have hll := endK_len kk
        have hsz : (⟨(endK kk).toArray⟩ : ByteArray).size = (endK kk).length := by simp [ByteArray.size]
        have hE : endZ zz kk = endK kk := if_pos hz8
        have hbl2 := HBd.out
        go_wp2_with (at_builtin; go_loud (refine Lib.wpList_append_own_string _ rfl _ _ 57 9 rfl (g0 + 2) 5 i5 Tryd.underlying57 Tryd.underlying9 hi5 hz50 hz51 hz52 _ b'.length _ rfl HQ2.out.own ⟨(endK kk).toArray⟩ rfl (by rw [hsz]; unfold maxLen; omega) (by rw [hsz]; omega) HQ2.out.le ?_; intro v' w3 hown' hgrow' hnil'; have HO := Lib.hid hown'; have HG := Lib.hid hgrow'; clear hown' hgrow' hnil'))
        go_meet
        exact Lib.hid (by simp only [if_true, hE]; exact HQ2.out.str (by have := HO.out; rwa [strCells_byte, hsz] at this) HG.out)
      · have hE : endZ zz kk = [] := if_neg hz8
        go_wp2
        go_meet
        exact Lib.hid (by simp only [if_true, hE, List.append_nil]; exact HQ2.out)
  case rest =>
  have HQ3 := hcut
  clear hcut
  by_cases hil : i < s.size
  case neg =>
    have c3 : ¬ (i : Int) < (s.size : Int) := by omega
    have hlast : i = s.size := by omega
    have e : be = true := by rw [← HBE.out, decide_eq_true hlast]; rfl
    subst e
    have HLast := Lib.hid hlast
    have hfin : says (cutAt 10 (b' ++ endZ zz kk)) = some xs := by
      have h := HRN.out
      rw [hlast, HSZ.out] at h
      exact h.final kk HXs.out
    have hlen := HRN.out.len
    have hel := endZ_len zz kk
    have HF := Lib.hid hfin
    rw [if_pos rfl] at HQ3
    clear hfin hlast
    go_wp2
    go_roundg g
    case measure => omega
    case rel => exact ⟨i + 1, n', zz, b' ++ endZ zz kk, by omega, hn', by omega, by rw [List.length_append]; omega, rfl, rfl, by first | (simp; done) | (simp; omega), HQ3, Lib.hid ⟨fun h => by omega, fun _ => HF.out⟩⟩
  case pos =>
  have c3 : (i : Int) < (s.size : Int) := by omega
  have c5 : (0 : Int) ≤ (i : Int) := by omega
  have hdi := Lib.data_getElem? s i hil
  have hlen := HRN.out.len
  have hel := endZ_len zz kk
  have hRm : ∃ L' cur' M', Rm s.data.toList (i + 1) ((zz + 1 : Nat) : Int) (b' ++ (if be = true then endZ zz kk else []) ++ [s[i]]) L' cur' M' := by
    by_cases h : s[i] = 10
    · have e : be = true := by rw [← HBE.out, hdi, h]; simp
      rw [if_pos e, h]
      exact ⟨_, _, _, HRN.out.newline kk (by rw [hdi, h]) HXs.out _⟩
    · have e : be = false := by rw [← HBE.out, hdi]; simp [h]; omega
      rw [e, if_neg (by decide), List.append_nil]
      exact ⟨_, _, _, by rw [Int.natCast_add]; exact HRN.out.byte hdi h⟩
  have HRM := Lib.hid hRm
  have hb3 : (b' ++ if be = true then endZ zz kk else []).length ≤ 17 * i + 33 := by
    rw [List.length_append]; split
    · omega
    · simp; omega
  clear hRm hdi
  generalize (b' ++ if be = true then endZ zz kk else []) = b3 at *
  go_wp2_with (at_builtin; go_loud (refine wpList_append_own _ rfl _ _ 57 rfl (g0 + 2) 5 i5 (.int .u8 0) 1 1 Tryd.underlying57 hi5 hz50 hz51 hz52 rfl (by decide) _ _ _ rfl (HQ3.out.own.alloc _) ⟨wc.heap.size, 0, none⟩ 1 1 [.int .u8 (s[i]).toNat] rfl rfl (cell_one_new _ _ _) (fun u hu => by simp at hu; subst hu; rfl) (by unfold maxLen; omega) (by omega) (by have := HQ3.out.le; simp; omega) ?_; intro v' w3 hown' hgrow' hnil'; have HO := Lib.hid hown'; have HG := Lib.hid hgrow'; clear hown' hgrow' hnil'))
  go_roundg g
  case measure => omega
  case rel => exact ⟨i + 1, n', zz + 1, b3 ++ [s[i]], by omega, hn', by omega, by rw [List.length_append]; simp; omega, rfl, by simp, by simp, Lib.hid (HQ3.out.next rfl HO.out HG.out), Lib.hid ⟨fun _ => HRM.out, fun h => by omega⟩⟩
end Go.Proofs.Sr
