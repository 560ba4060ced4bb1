/- secrets: the law SecretReads walked. -/
import Derived.Test.YtnadimjglkodkaaGreatDoorPrTwK
import Derived.Test.YtnadimjglkodkaaGreatDoorPrTzR
namespace Go.Proofs.Sr
open Go Go.RowKit Go.Pl Go.Proofs.Sa Go.Maps
/-- What a text comes to: secrets, an error's number, a line's. -/
def outO : Except (Int × Nat) (List Said) → List Said × Int × Nat
  | .ok out => (out, 0, 0)
  | .error (k, i) => ([], k, i)
theorem PaRet.uni {l : List UInt8} {w w' : World} {e : Ending} (h : PaRet l w e w') : ∃ ao cap l', e = .returned (.tuple #[.slice ao l'.length cap, .int .i64 (outO (parseT l)).2.1, .int .i64 ((outO (parseT l)).2.2 : Nat)]) ∧ l'.map said = (outO (parseT l)).1 ∧ Frs w.heap.size (.slice ao l'.length cap) l' w' ∧ Below w.heap.size w w' := by
  obtain ⟨h1, h2, h3⟩ := h
  cases hp : parseT l with
  | ok out =>
    obtain ⟨v, l', rfl, hl, hf⟩ := h1 out hp
    obtain ⟨ao, cap, rfl⟩ := own_slice hf.own
    exact ⟨ao, cap, l', rfl, hl, hf, h3⟩
  | error ki =>
    obtain ⟨k, i⟩ := ki
    exact ⟨none, 0, [], h2 k i hp, rfl, Frs.nil _ _, h3⟩
theorem said_same : ∀ (l m : List Sec), l.map said = m.map said → sameL l m = true
  | [], [], _ => rfl
  | [], _ :: _, h => by cases h
  | _ :: _, [], h => by cases h
  | x :: l, y :: m, h => by
    simp only [List.map_cons, List.cons.injEq] at h
    obtain ⟨h1, h2⟩ := h
    simp only [said, Prod.mk.injEq] at h1
    obtain ⟨a1, a2, a3, a4⟩ := h1
    have e : ∀ a b : ByteArray, a.data.toList = b.data.toList → sameB a b = true := fun a b h => by
      unfold sameB
      rw [Lib.toList_data, Lib.toList_data, h]
      exact beq_self_eq_true _
    simp [sameL, oneR, e _ _ a1, e _ _ a2, e _ _ a3, a4, said_same l m h2]
/-- What is read is small. -/
theorem lineS_small {s : List UInt8} {x : Said} (h : lineS s = .ok (some x)) : x.2.2.2.length ≤ 16 := by
  unfold lineS at h
  split at h
  · cases h
  · split at h
    · cases h
    · cases h
    · cases h
    · cases h
    · rename_i c sv wd ws _
      split at h
      · cases h
      · rename_i hy
        cases h
        have hy0 : whyP c sv wd ws = 0 := by simpa using hy
        unfold whyP at hy0
        simp only at hy0
        by_cases hb : bads ws ≠ 0 ∧ rightR (str c) (str sv) (str wd) (adrs ws) ≠ 60 ∧ rightR (str c) (str sv) (str wd) (adrs ws) ≠ 52
        · rw [if_pos hb] at hy0; exact absurd hy0 hb.1
        · rw [if_neg hb] at hy0
          unfold rightR at hy0
          split at hy0
          · omega
          · split at hy0
            · omega
            · split at hy0
              · omega
              · show (adrs ws).length ≤ 16
                omega
theorem parseS_small : ∀ (ls : List (List UInt8)) (i : Nat) (acc out : List Said), (∀ x ∈ acc, x.2.2.2.length ≤ 16) → parseS i ls acc = .ok out → ∀ x ∈ out, x.2.2.2.length ≤ 16
  | [], i, acc, out, ha, h => by
    have : acc = out := by simpa [parseS] using h
    subst this; exact ha
  | s :: ls, i, acc, out, ha, h => by
    unfold parseS at h
    cases hl : lineS s with
    | error e => rw [hl] at h; cases h
    | ok o =>
      rw [hl] at h
      cases o with
      | none => exact parseS_small ls _ acc out ha h
      | some x => exact parseS_small ls _ _ out (fun y hy => by
          rcases List.mem_append.1 hy with hy | hy
          · exact ha y hy
          · obtain rfl := List.mem_singleton.1 hy
            exact lineS_small hl) h
theorem out_small (l : List UInt8) : (outO (parseT l)).1.length ≤ 64 ∧ ∀ x ∈ (outO (parseT l)).1, x.2.2.2.length ≤ 16 := by
  unfold parseT
  split
  · exact ⟨Nat.zero_le _, fun x hx => by cases hx⟩
  · cases hp : parseS 0 (cutAt 10 l) [] with
    | error e => exact ⟨Nat.zero_le _, fun x hx => by cases hx⟩
    | ok out =>
      simp only
      split
      · exact ⟨Nat.zero_le _, fun x hx => by cases hx⟩
      · rename_i hn
        exact ⟨by show out.length ≤ 64; omega, parseS_small _ _ _ _ (fun x hx => by cases hx) hp⟩
theorem Frs.secs {base : Nat} {ao : Option Addr} {n cap : Nat} {l : List Sec} {wx : World} (h : Frs base (.slice ao n cap) l wx) (hn : l.length = n) : Secs wx ao n l := by
  have ho := h.own
  rw [hn] at ho
  obtain ⟨ao2, cap2, he, hs, _⟩ := secs_own ho (fun x hx => (h.ints x hx).1)
  simp only [Value.slice.injEq] at he
  obtain ⟨rfl, _, rfl⟩ := he
  exact hs
theorem Frs.only {base : Nat} {v : Value} {l : List Sec} {w w' : World} {B C : Nat} (h : Frs base v l w) (ho : Only B C w w') (hC : C ≤ base) : Frs base v l w' := by
  refine ⟨?_, fun y hy => ⟨(h.ints y hy).1.only ((h.ints y hy).2.1.mono hC) ho, (h.ints y hy).2.1.only ho hC, (h.ints y hy).2.2⟩⟩
  obtain ⟨h1, h2 | ⟨g, cap, cur, e1, e2, e3, e4⟩⟩ := h.own
  · exact ⟨h1, .inl h2⟩
  · exact ⟨h1, .inr ⟨g, cap, cur, e1, e2, (ho.far g (.inr (Nat.le_trans hC e2))).trans e3, e4⟩⟩
theorem Spl.narrow {B C C' g : Nat} {l : List Sec} {w : World} (h : Spl B C g l w w) (hg : g < C') (hl : ∀ y ∈ l, ∀ a, y.ao = some a → a.block < C') : Spl B C' g l w w :=
  ⟨Only.refl _ _ _, ⟨h.gb.1, hg⟩, h.row, fun y hy h0 => by
    obtain ⟨b, off, cur, e1, e2, _, e4, e5⟩ := h.nums y hy h0
    exact ⟨b, off, cur, e1, e2, hl y hy _ e1, e4, e5⟩⟩
/-- Secrets that lie below C are written over: what lies from C on stays. -/
theorem spoil_frs {B C : Nat} {ao : Option Addr} {cap : Nat} {l : List Sec} {w0 w : World} (h0 : Frs B (.slice ao l.length cap) l w0) (hC : w0.heap.size = C) (hb : Below C w0 w) (hn : l.length ≤ 1048576) (hns : ∀ y ∈ l, y.n ≤ 1048576) :
    Calls Tryz.prog 25 #[.slice ao l.length cap] w fun e w2 => e = .returned (.tuple #[]) ∧ Only B C w w2 := by
  have h := h0.kept (hC ▸ hb)
  rcases spl_own h.own (fun y hy => ⟨(h.ints y hy).1, (h.ints y hy).2.1⟩) with ⟨rfl, h1, rfl⟩ | ⟨g, rfl, hl, hs⟩
  · rw [h1]
    refine (spoil_nil w).mono ?_
    rintro e w2 ⟨rfl, rfl⟩
    exact ⟨rfl, Only.refl _ _ _⟩
  · have hg : g < C := hC ▸ (h0.own.lt g rfl).2
    have hl2 : ∀ y ∈ l, ∀ a, y.ao = some a → a.block < C := fun y hy a ha => by
      obtain ⟨_, _, h2⟩ := (h0.ints y hy).2.1 a ha
      exact hC ▸ (Array.getElem?_eq_some_iff.1 h2).1
    exact spoil_any B C g cap l w (Spl.narrow hs hg hl2) hn hns
set_option maxRecDepth 1000000 in
set_option maxHeartbeats 6400000 in
theorem reads_law (s : ByteArray) (t : TypeId) (pv : Value) (w : World) (hV : Env w t pv) (hA : ∀ w', Below w.heap.size w w' → Calls Tryz.prog 26 #[] w' fun e w2 => e = .returned (.bool true) ∧ Below w'.heap.size w' w2) :
    Calls Tryz.prog 5 #[.string s] w fun e w' => e = .returned (.bool true) ∧ Below w.heap.size w w' := by
  have HV := Lib.hid hV
  have HA := Lib.hid hA
  have HOut := Lib.hid (out_small s.data.toList)
  obtain ⟨O, hO⟩ : ∃ O, outO (parseT s.data.toList) = O := ⟨_, rfl⟩
  have HP := Lib.hid (fun w (h : Env w t pv) => parse_any s t pv w h)
  have HRP := Lib.hid (fun w (h : Consts w) => rparse_any s w h)
  have HO := Lib.hid hO
  clear hV hA hO
  have HSm : Hid (∀ l : List Sec, l.map said = O.1 → l.length ≤ 64 ∧ ∀ w ao n cap base, Frs base (.slice ao n cap) l w → ∀ y ∈ l, y.n ≤ 1048576) := Lib.hid fun l hl => by
    have h1 := HOut.out
    rw [HO.out] at h1
    refine ⟨by have := congrArg List.length hl; rw [List.length_map] at this; omega, fun w ao n cap base hf y hy => ?_⟩
    have h2 := h1.2 (said y) (by rw [← hl]; exact List.mem_map_of_mem hy)
    have h3 := (hf.ints y hy).1.len
    have h4 : y.zs.length ≤ 16 := h2
    omega
  go_enter Tryz.func5, Tryz.ntmps5
  go_upto_region 2 with (go_at_call 22; go_loud (refine (HP.out _ HV.out).mono ?_; rintro e w1 h1; obtain ⟨ao1, cap1, l1, rfl, hl1, hf1, hb1⟩ := h1.uni; rw [HO.out] at hl1 ⊢; have HL1 := Lib.hid hl1; have HF1 := Lib.hid hf1; have HB1 := Lib.hid hb1; clear h1 hl1 hf1 hb1))
  have HV1 := Lib.hid (HV.out.kept HB1.out)
  go_upto_region 3 with (go_at_call 22; go_loud (refine (HP.out _ HV1.out).mono ?_; rintro e w2 h1; obtain ⟨ao2, cap2, l2, rfl, hl1, hf1, hb1⟩ := h1.uni; rw [HO.out] at hl1 ⊢; have HL2 := Lib.hid hl1; have HF2 := Lib.hid hf1; have HB2 := Lib.hid hb1; clear h1 hl1 hf1 hb1))
  have HV2 := Lib.hid (HV1.out.kept HB2.out)
  go_upto_region 4 with (go_at_call 23; go_loud (refine (HRP.out _ HV2.out.con).mono ?_; rintro e w3 h1; obtain ⟨ao3, cap3, l3, rfl, hl1, hf1, hb1⟩ := h1.uni; rw [HO.out] at hl1 ⊢; have HL3 := Lib.hid hl1; have HF3 := Lib.hid hf1; have HB3 := Lib.hid hb1; clear h1 hl1 hf1 hb1))
  have HB13 := Lib.hid (HB2.out.trans (HB3.out.mono HB2.out.size))
  have HSame1 : Hid (Calls Tryz.prog 24 #[.slice ao1 l1.length cap1, .slice ao3 l3.length cap3] w3 fun e w' => e = .returned (.bool true) ∧ Below w3.heap.size w3 w') := Lib.hid (by
    have h1 := HF1.out.kept HB13.out
    have := rsame_any ao1 ao3 l1.length cap1 l3.length cap3 l1 l3 w3 (h1.secs rfl) (HF3.out.secs rfl) (by have := (HSm.out l1 HL1.out).1; omega) ((HSm.out l1 HL1.out).2 _ _ _ _ _ h1)
    rwa [said_same l1 l3 (HL1.out.trans HL3.out.symm)] at this)
  have e1 : (O.2.1 != O.2.1) = false := by simp
  have e2 : (((O.2.2 : Nat) : Int) != ((O.2.2 : Nat) : Int)) = false := by simp
  have HSp := Lib.hid (fun w4 (hb : Below w3.heap.size w3 w4) => spoil_frs (w0 := w1) (w := w4) HF1.out rfl (HB13.out.trans (hb.mono HB13.out.size)) (by have := (HSm.out l1 HL1.out).1; omega) ((HSm.out l1 HL1.out).2 _ _ _ _ _ HF1.out))
  have HSame2 : Hid (∀ w4 w5, Below w3.heap.size w3 w4 → Only w.heap.size w1.heap.size w4 w5 → Calls Tryz.prog 24 #[.slice ao2 l2.length cap2, .slice ao3 l3.length cap3] w5 fun e w' => e = .returned (.bool true) ∧ Below w5.heap.size w5 w') := Lib.hid fun w4 w5 h4 h5 => by
    have h2 := ((HF2.out.kept (HB3.out)).kept h4).only h5 (Nat.le_refl _)
    have h3 := (HF3.out.kept h4).only h5 HB2.out.size
    have := rsame_any ao2 ao3 l2.length cap2 l3.length cap3 l2 l3 w5 (h2.secs rfl) (h3.secs rfl) (by have := (HSm.out l2 HL2.out).1; omega) ((HSm.out l2 HL2.out).2 _ _ _ _ _ h2)
    rwa [said_same l2 l3 (HL2.out.trans HL3.out.symm)] at this
  have HBw : Hid (∀ w4 w5, Below w3.heap.size w3 w4 → Only w.heap.size w1.heap.size w4 w5 → Below w.heap.size w w5) := Lib.hid fun w4 w5 h4 h5 =>
    h5.below (HB1.out.trans ((HB13.out.trans (h4.mono HB13.out.size)).mono HB1.out.size)) (Nat.le_refl _)
  generalize O.2.1 = k1 at *
  generalize ((O.2.2 : Nat) : Int) = k2 at *
  generalize l1.length = n1 at *
  generalize l2.length = n2 at *
  generalize l3.length = n3 at *
  go_upto_region 7 with (first
    | (go_at_call 24; go_loud (refine HSame1.out.mono ?_; rintro e w4 ⟨rfl, hb4⟩; have HB4 := Lib.hid hb4; clear hb4))
    | (go_at_call 25; go_loud (refine (HSp.out _ HB4.out).mono ?_; rintro e w5 ⟨rfl, ho5⟩; have HO5 := Lib.hid ho5; clear ho5)))
  go_wp2_with (first
    | (go_at_call 24; go_loud (refine (HSame2.out _ _ HB4.out HO5.out).mono ?_; rintro e w6 ⟨rfl, hb6⟩; have HB6 := Lib.hid (below_step (HBw.out _ _ HB4.out HO5.out) hb6); clear hb6))
    | (go_at_call 26; go_loud (refine (HA.out _ HB6.out).mono ?_; rintro e w7 ⟨rfl, hb7⟩; have HB7 := Lib.hid (below_step HB6.out hb7); clear hb7)))
  go_ret
  exact ⟨rfl, HB7.out⟩
end Go.Proofs.Sr
