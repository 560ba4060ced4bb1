/- secrets: the program's Parse. -/
import Derived.BigQuiet
import Derived.Deep.QuietTactic
import Derived.Test.YtnadimjglkodkaaGreatDoorPrTwD
import Derived.Test.YtnadimjglkodkaaGreatDoorPrTwE
import Derived.Test.YtnadimjglkodkaaGreatDoorPrTzJ
namespace Go.Proofs.Sr
open Go Go.RowKit Go.Pl Go.Proofs.Sa Go.Maps Go.Ev
/-- What Parse answers, either side. -/
def PaRet (l : List UInt8) (w : World) (e : Ending) (w' : World) : Prop :=
  (∀ out, parseT l = .ok out → ∃ v l', e = .returned (.tuple #[v, .int .i64 0, .int .i64 0]) ∧ l'.map said = out ∧ Frs w.heap.size v l' w') ∧
  (∀ k i, parseT l = .error (k, i) → e = .returned (.tuple #[.slice none 0 0, .int .i64 k, .int .i64 (i : Nat)])) ∧ Below w.heap.size w w'
theorem PaRet.good {l : List UInt8} {w w' : World} {v : Value} {l' : List Sec} (h : parseT l = .ok (l'.map said)) (hf : Frs w.heap.size v l' w') (hb : Below w.heap.size w w') : PaRet l w (.returned (.tuple #[v, .int .i64 0, .int .i64 0])) w' :=
  ⟨fun out e => (by rw [h] at e; cases e; exact ⟨v, l', rfl, rfl, hf⟩), fun k i e => (by rw [h] at e; cases e), hb⟩
theorem PaRet.bad {l : List UInt8} {w w' : World} {k : Int} {i : Nat} (h : parseT l = .error (k, i)) (hb : Below w.heap.size w w') : PaRet l w (.returned (.tuple #[.slice none 0 0, .int .i64 k, .int .i64 i])) w' :=
  ⟨fun out e => (by rw [h] at e; cases e), fun k i e => (by rw [h] at e; cases e; rfl), hb⟩
theorem parseT_long {l : List UInt8} (h : 65536 < l.length) : parseT l = .error (4, 0) := by unfold parseT; rw [if_pos h]
theorem parseT_bad {l : List UInt8} (h : ¬ 65536 < l.length) {k : Int} {i : Nat} (hp : parseS 0 (cutAt 10 l) [] = .error (k, i)) : parseT l = .error (k, i) := by unfold parseT; rw [if_neg h, hp]
theorem parseT_full {l : List UInt8} (h : ¬ 65536 < l.length) {out : List Said} (hp : parseS 0 (cutAt 10 l) [] = .ok out) (hn : 64 < out.length) : parseT l = .error (7, 64) := by unfold parseT; rw [if_neg h, hp]; simp only [if_pos hn]
theorem parseT_good {l : List UInt8} (h : ¬ 65536 < l.length) {out : List Said} (hp : parseS 0 (cutAt 10 l) [] = .ok out) (hn : ¬ 64 < out.length) : parseT l = .ok out := by unfold parseT; rw [if_neg h, hp]; simp only [if_neg hn]
/-- What a world must hold for a file to be read. -/
structure Env (w : World) (t : TypeId) (pv : Value) : Prop where
  con : Consts w
  ev : w.cell? ⟨0, 0, none⟩ = some (.iface t pv)
  start : ∃ κ, Ev.Start Tryz.prog 11 κ hp0 w
theorem Env.kept {w w' : World} {t : TypeId} {pv : Value} (h : Env w t pv) (hb : Below w.heap.size w w') : Env w' t pv :=
  ⟨h.con.kept hb, (hb.cell (World.block_lt_of_cell? _ _ h.ev)).trans h.ev, let ⟨κ, hs⟩ := h.start; ⟨κ, hs.below hb⟩⟩
theorem Env.size {w : World} {t : TypeId} {pv : Value} (h : Env w t pv) : 2 ≤ w.heap.size := by
  obtain ⟨κ, hs⟩ := h.start
  obtain ⟨b, h1, h2, _⟩ := hs.kg 1 (by decide)
  have := hs.rel.old 1 b h1
  omega
set_option maxRecDepth 1000000 in
set_option maxHeartbeats 3200000 in
theorem parse_any (s : ByteArray) (t : TypeId) (pv : Value) (w : World) (hV : Env w t pv) : Calls Tryz.prog 22 #[.string s] w (PaRet s.data.toList w) := by
  have HSZ := Lib.hid (Lib.size_eq s)
  by_cases hL : 65536 < s.size
  · have c0 : (65536 : Int) < (s.size : Int) := by omega
    have HF := Lib.hid (parseT_long (l := s.data.toList) (by rw [← HSZ.out]; exact hL))
    go_enter Tryz.func22, Tryz.ntmps22
    go_wp2
    go_ret3
    exact PaRet.bad (i := 0) HF.out (Below.refl _ _)
  have c0 : ¬ (65536 : Int) < (s.size : Int) := by omega
  have HL := Lib.hid (show ¬ 65536 < s.data.toList.length by rw [← HSZ.out]; exact hL)
  have HR := Lib.hid (read_any s (by omega) t pv w hV.con hV.ev)
  have HV := Lib.hid hV
  clear hV
  cases hp : parseS 0 (cutAt 10 s.data.toList) [] with
  | error ki =>
    obtain ⟨k, i⟩ := ki
    have HF := Lib.hid (parseT_bad HL.out hp)
    have HP := Lib.hid hp
    clear hp
    go_enter Tryz.func22, Tryz.ntmps22
    go_upto_region 5 with (go_at_call 46; go_loud (refine HR.out.mono ?_; rintro e w2 ⟨_, hg, hb2⟩; obtain ⟨f, rfl, hf1, hf2⟩ := hg _ _ HP.out; have HV2 := Lib.hid (HV.out.kept hb2); have HF1 := Lib.hid hf1; have HF2 := Lib.hid hf2; have HB2 := Lib.hid hb2; clear hg hf1 hf2 hb2))
    have hal : Below w2.heap.size w2 (w2.alloc (.cells #[.pointer none] 86)) := (Below.refl _ _).alloc (Nat.le_refl _) _
    have HV3 := Lib.hid (HV2.out.kept hal)
    have HB3 := Lib.hid (below_step HB2.out hal)
    have hflt : f < w2.heap.size := (Array.getElem?_eq_some_iff.1 HF2.out).1
    have HF3 := Lib.hid ((hal.block f hflt).trans HF2.out)
    have HQ3 := Lib.hid (heap_alloc_new w2 (.cells #[.pointer none] 86))
    have HSz := Lib.hid (Nat.le_trans HV.out.size HF1.out)
    have HQs := Lib.hid HB2.out.size
    clear hal
    generalize w2.alloc (.cells #[.pointer none] 86) = w3 at *
    generalize w2.heap.size = q at *
    have kE := HV3.out.ev
    have hs2 : 2 ≤ q := by have := HSz.out; omega
    have HIs : Hid (Calls Tryz.prog 47 #[.iface 86 (.pointer (some ⟨f, 0, none⟩)), .iface t pv] w3 fun e w' => e = .returned (.bool true) ∧ Below w3.heap.size w3 w') := Lib.hid (by
      obtain ⟨κ, hs⟩ := HV3.out.start
      exact is_fault hs HV3.out.ev HF3.out HQ3.out HSz.out hs2 (by omega))
    have hq3 : q < w3.heap.size := (Array.getElem?_eq_some_iff.1 HQ3.out).1
    have HAs : Hid (∀ w4, Below w3.heap.size w3 w4 → Calls Tryz.prog 48 #[.iface 86 (.pointer (some ⟨f, 0, none⟩)), .iface 89 (.pointer (some ⟨q, 0, none⟩))] w4 fun e w' => e = .returned (.bool true) ∧ Below w.heap.size w w' ∧ w'.cell? ⟨q, 0, none⟩ = some (.pointer (some ⟨f, 0, none⟩)) ∧ w'.cell? ⟨f, 0, none⟩ = some (.int .i64 i) ∧ w'.cell? ⟨f, 1, none⟩ = some (.int .i64 k)) := Lib.hid fun w4 hb4 => by
      obtain ⟨κ, hs⟩ := (HV3.out.kept hb4).start
      have hf4 := (hb4.block f (by omega)).trans HF3.out
      have hq4 := (hb4.block q hq3).trans HQ3.out
      refine (as_fault hs (HV3.out.kept hb4).ev hf4 hq4 HSz.out hs2 (by omega)).mono ?_
      rintro e w5 ⟨rfl, hb5, hc⟩
      have hf5 : w5.heap[f]? = some (.cells #[.int .i64 i, .int .i64 k, .iface t pv] 91 (0, 0)) := (hb5.block f hflt).trans hf4
      exact ⟨rfl, (below_step HB3.out hb4).trans (hb5.mono HQs.out), hc, by simp only [World.cell?, hf5]; rfl, by simp only [World.cell?, hf5]; rfl⟩
    clear hflt hs2 hq3
    go_wp2_with (first
      | (go_at_call 47; go_loud (refine HIs.out.mono ?_; rintro e w4 ⟨rfl, hb4⟩; have HA4 := Lib.hid (HAs.out _ hb4); clear hb4))
      | (go_at_call 48; go_loud (refine HA4.out.mono ?_; rintro e w5 ⟨rfl, hb5, p1, p2, p3⟩; have HB5 := Lib.hid hb5; clear hb5)))
    go_quiet (fail)
    go_wp2
    go_ret3
    exact PaRet.bad HF.out (drawn HB5.out _)
  | ok out =>
    have HP := Lib.hid hp
    have HN0 : Hid (∀ l' : List Sec, l'.map said = out → l'.length = out.length) := Lib.hid fun l' h => by rw [← h, List.length_map]
    by_cases hn : 64 < out.length
    · have HF := Lib.hid (parseT_full HL.out hp hn)
      clear hp
      go_enter Tryz.func22, Tryz.ntmps22
      go_upto_region 5 with (go_at_call 46; go_loud (refine HR.out.mono ?_; rintro e w2 ⟨hg, _, hb2⟩; obtain ⟨v, l', rfl, hl, hfr⟩ := hg _ HP.out; obtain ⟨ao, cap, rfl⟩ := own_slice hfr.own; rw [HN0.out l' hl]; have HV2 := Lib.hid (HV.out.kept hb2); have HB2 := Lib.hid hb2; clear hg hl hfr hb2))
      have hal : Below w2.heap.size w2 (w2.alloc (.cells #[.pointer none] 86)) := (Below.refl _ _).alloc (Nat.le_refl _) _
      have HV3 := Lib.hid (HV2.out.kept hal)
      have HB3 := Lib.hid (below_step HB2.out hal)
      clear hal
      generalize w2.alloc (.cells #[.pointer none] 86) = w3 at *
      have kE := HV3.out.ev
      have HIs : Hid (Calls Tryz.prog 47 #[.nilIface, .iface t pv] w3 fun e w' => e = .returned (.bool false) ∧ Below w3.heap.size w3 w') := Lib.hid (by
        obtain ⟨κ, hs⟩ := HV3.out.start
        exact is_nil hs HV3.out.ev)
      have c5 : (64 : Int) < (out.length : Int) := by omega
      go_wp2_with (go_at_call 47; go_loud (refine HIs.out.mono ?_; rintro e w4 ⟨rfl, hb4⟩; have HB4 := Lib.hid (below_step HB3.out hb4); clear hb4))
      go_ret3
      exact PaRet.bad HF.out HB4.out
    · have HF := Lib.hid (parseT_good HL.out hp hn)
      clear hp
      go_enter Tryz.func22, Tryz.ntmps22
      go_upto_region 5 with (go_at_call 46; go_loud (refine HR.out.mono ?_; rintro e w2 ⟨hg, _, hb2⟩; obtain ⟨v, l', rfl, hl, hfr⟩ := hg _ HP.out; obtain ⟨ao, cap, rfl⟩ := own_slice hfr.own; have HLn := Lib.hid (HN0.out l' hl); have HLs := Lib.hid hl; have HFr := Lib.hid hfr; have HV2 := Lib.hid (HV.out.kept hb2); have HB2 := Lib.hid hb2; clear hg hl hfr hb2))
      have hal : Below w2.heap.size w2 (w2.alloc (.cells #[.pointer none] 86)) := (Below.refl _ _).alloc (Nat.le_refl _) _
      have HV3 := Lib.hid (HV2.out.kept hal)
      have HB3 := Lib.hid (below_step HB2.out hal)
      have HFr3 := Lib.hid (HFr.out.kept hal)
      clear hal
      generalize w2.alloc (.cells #[.pointer none] 86) = w3 at *
      have kE := HV3.out.ev
      have HIs : Hid (Calls Tryz.prog 47 #[.nilIface, .iface t pv] w3 fun e w' => e = .returned (.bool false) ∧ Below w3.heap.size w3 w') := Lib.hid (by
        obtain ⟨κ, hs⟩ := HV3.out.start
        exact is_nil hs HV3.out.ev)
      have c5 : ¬ (64 : Int) < (l'.length : Int) := by have := HLn.out; omega
      go_wp2_with (go_at_call 47; go_loud (refine HIs.out.mono ?_; rintro e w4 ⟨rfl, hb4⟩; have HB4 := Lib.hid (below_step HB3.out hb4); have HFr4 := Lib.hid (HFr3.out.kept hb4); clear hb4))
      go_ret3
      exact PaRet.good (by rw [HF.out, HLs.out]) HFr4.out HB4.out
end Go.Proofs.Sr
