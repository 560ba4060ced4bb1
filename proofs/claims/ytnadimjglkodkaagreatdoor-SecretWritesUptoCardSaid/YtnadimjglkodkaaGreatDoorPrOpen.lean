/- secrets: a struct of three texts and a row of numbers, as it comes in. -/
import Derived.ChangeMaps5
import Derived.ChangeSlices
import Derived.Lib.SmallJoins
import Derived.Deep.Slices
import Derived.Test.YtnadimjglkodkaaGreatDoorPrSaDef
namespace Go.Proofs.Sa
open Go Go.RowKit Go.Pl Go.ChangeShapes Go.WideShapes
variable {H : Type} {enc : TypeId × Value → H} {P : Program} {W : World} {fuel : Nat}
theorem trod_text {t : TypeId} {cs : List Value} {x : DataW H × List MemPlace} (ht : P.underlying t = some .string) (h : DataW.trod enc P W 0 (fun _ => true) true fuel t cs = some x) : ∃ s : ByteArray, cs = [.string s] ∧ x = (.lit (.string s.data.toList), []) ∧ s.size ≤ maxLen := by
  obtain ⟨s, h1, hx, hs⟩ := DataW.trod_string ht h
  exact ⟨s, h1, hx, hs⟩
/-- Numbers as they come in. -/
structure IntsT (w : World) (ao : Option Addr) (n cap : Nat) (zs : List Int) : Prop where
  len : zs.length = n
  wf : ∀ z ∈ zs, (Lit.int .i64 z).wf = true
  row : 0 < n → ∃ b off, ao = some ⟨b, off, none⟩ ∧ b < w.heap.size ∧ ∀ j, j < n → w.cell? ⟨b, off + j, none⟩ = some (.int .i64 (zs.getD j 0))
  fits : n ≤ cap ∧ cap ≤ maxLen
  bare : ao = none → cap = 0
  spot : 0 < cap → ∀ a, ao = some a → a.spot = none
theorem IntsT.here {w : World} {ao : Option Addr} {n cap : Nat} {zs : List Int} (h : IntsT w ao n cap zs) : Ints w ao n zs := ⟨h.len, h.wf, h.row⟩
theorem ints_trod {ts ti : TypeId} {cs : List Value} {x : DataW H × List MemPlace} (hts : P.underlying ts = some (.slice ti)) (hti : P.underlying ti = some (.int .i64)) (cti : P.cellsOf ti = 1) (h : DataW.trod enc P W 0 (fun _ => true) true fuel ts cs = some x) :
    ∃ ao n cap zs, cs = [.slice ao n cap] ∧ IntsT W ao n cap zs ∧ ((x.1 = .nil ∧ cap = 0) ∨ ∃ ls ss, x.1 = .slice ls ss ∧ ls.length + ss.length = cap) := by
  rcases open_ints hts hti cti h with ⟨rfl, rfl⟩ | ⟨a, n, cap, zs, rfl, _, hl, hm, hz, rfl, hcell, hwf⟩
  · exact ⟨none, 0, 0, [], rfl, ⟨rfl, fun z hz => (by cases hz), fun h => absurd h (Nat.lt_irrefl 0), ⟨Nat.le_refl _, Nat.zero_le _⟩, fun _ => rfl, fun h => absurd h (Nat.lt_irrefl 0)⟩, .inl ⟨rfl, rfl⟩⟩
  · simp only [if_true] at hz
    have hsp : 0 < cap → a.spot = none := fun h0 => by
      have h1 := hcell 0 (by omega)
      unfold Addr.add at h1
      rw [if_pos rfl] at h1
      unfold World.cell? at h1
      cases hs : a.spot with
      | none => rfl
      | some k =>
        rw [hs] at h1
        split at h1 <;> simp at h1
    refine ⟨some a, n, cap, zs.take n, rfl, ⟨by simp; omega, fun z hz' => hwf z (List.mem_of_mem_take hz'), fun h0 => ?_, ⟨hl, hm⟩, fun h => (by cases h), fun h b hb => by cases hb; exact hsp h⟩, .inr ⟨_, _, rfl, ?_⟩⟩
    · have hs := hsp (by omega)
      obtain ⟨b, off, sp⟩ := a
      obtain rfl : sp = none := hs
      refine ⟨b, off, rfl, ?_, fun j hj => ?_⟩
      · have h1 := hcell 0 (by omega)
        exact World.block_lt_of_cell? _ _ h1
      · have h1 := hcell j (by omega)
        have ha : (⟨b, off, none⟩ : Addr).add j = ⟨b, off + j, none⟩ := by unfold Addr.add; split <;> simp_all
        rw [ha] at h1
        rw [h1]
        have : (zs.take n).getD j 0 = zs.getD j 0 := by simp [List.getD, List.getElem?_take_of_lt hj]
        rw [this]
    · simp [lits]; omega
theorem sec_trod {t s ts ti : TypeId} {f0 f1 f2 f3 : Field} (ht : P.underlying t = some (.struct #[f0, f1, f2, f3])) (g0 : (f0.type, f0.offset) = (s, 0)) (g1 : (f1.type, f1.offset) = (s, 1)) (g2 : (f2.type, f2.offset) = (s, 2)) (g3 : (f3.type, f3.offset) = (ts, 3))
    (hs : P.underlying s = some .string) (c1 : P.cellsOf s = 1) (hts : P.underlying ts = some (.slice ti)) (cts : P.cellsOf ts = 1) (hti : P.underlying ti = some (.int .i64)) (cti : P.cellsOf ti = 1) (ct : P.cellsOf t = 4)
    {cs : List Value} {x : DataW H × List MemPlace} (h : DataW.trod enc P W 0 (fun _ => true) true fuel t cs = some x) :
    ∃ (c sv wd : ByteArray) (ao : Option Addr) (n cap : Nat) (zs : List Int) (d : DataW H), cs = [.string c, .string sv, .string wd, .slice ao n cap] ∧ c.size ≤ maxLen ∧ sv.size ≤ maxLen ∧ wd.size ≤ maxLen ∧ IntsT W ao n cap zs ∧
      x.1 = .agg [.lit (.string c.data.toList), .lit (.string sv.data.toList), .lit (.string wd.data.toList), d] ∧ ((d = .nil ∧ cap = 0) ∨ ∃ ls ss, d = .slice ls ss ∧ ls.length + ss.length = cap) := by
  obtain ⟨xs, m, _, rfl, hl, hlen, hf⟩ := DataW.trod_struct ht h
  rw [ct] at hl
  simp only [Prod.mk.injEq] at g0 g1 g2 g3
  match cs, hl with
  | [v0, v1, v2, v3], _ =>
    match xs, hlen with
    | [y0, y1, y2, y3], _ =>
      have e0 : DataW.trod enc P W 0 (fun _ => true) true m f0.type (([v0, v1, v2, v3].drop f0.offset).take (P.cellsOf f0.type)) = some y0 := by simpa using hf 0 f0 rfl
      have e1 : DataW.trod enc P W 0 (fun _ => true) true m f1.type (([v0, v1, v2, v3].drop f1.offset).take (P.cellsOf f1.type)) = some y1 := by simpa using hf 1 f1 rfl
      have e2 : DataW.trod enc P W 0 (fun _ => true) true m f2.type (([v0, v1, v2, v3].drop f2.offset).take (P.cellsOf f2.type)) = some y2 := by simpa using hf 2 f2 rfl
      have e3 : DataW.trod enc P W 0 (fun _ => true) true m f3.type (([v0, v1, v2, v3].drop f3.offset).take (P.cellsOf f3.type)) = some y3 := by simpa using hf 3 f3 rfl
      rw [g0.1, g0.2, c1] at e0
      rw [g1.1, g1.2, c1] at e1
      rw [g2.1, g2.2, c1] at e2
      rw [g3.1, g3.2, cts] at e3
      obtain ⟨c, h0, rfl, hc⟩ := trod_text hs e0
      obtain ⟨sv, h1, rfl, hsv⟩ := trod_text hs e1
      obtain ⟨wd, h2, rfl, hwd⟩ := trod_text hs e2
      obtain ⟨ao, n, cap, zs, h3, hi, hd⟩ := ints_trod hts hti cti e3
      simp at h0 h1 h2 h3
      subst h0 h1 h2 h3
      exact ⟨c, sv, wd, ao, n, cap, zs, y3.1, rfl, hc, hsv, hwd, hi, by simp, hd⟩
/-- The datum of a secret. -/
def SecD (x : Sec) (d : DataW H) : Prop := x.c.size ≤ maxLen ∧ x.sv.size ≤ maxLen ∧ x.wd.size ≤ maxLen ∧ ∃ dl, d = .agg [.lit (.string x.c.data.toList), .lit (.string x.sv.data.toList), .lit (.string x.wd.data.toList), dl] ∧ ((dl = .nil ∧ x.cap = 0) ∨ ∃ ls ss, dl = .slice ls ss ∧ ls.length + ss.length = x.cap)
instance : Inhabited Sec := ⟨zeroSec⟩
theorem secs_trod {tt t s ts ti : TypeId} {f0 f1 f2 f3 : Field} (htt : P.underlying tt = some (.slice t)) (ht : P.underlying t = some (.struct #[f0, f1, f2, f3])) (g0 : (f0.type, f0.offset) = (s, 0)) (g1 : (f1.type, f1.offset) = (s, 1)) (g2 : (f2.type, f2.offset) = (s, 2)) (g3 : (f3.type, f3.offset) = (ts, 3))
    (hs : P.underlying s = some .string) (c1 : P.cellsOf s = 1) (hts : P.underlying ts = some (.slice ti)) (cts : P.cellsOf ts = 1) (hti : P.underlying ti = some (.int .i64)) (cti : P.cellsOf ti = 1) (ct : P.cellsOf t = 4)
    {cs : List Value} {x : DataW H × List MemPlace} (h : DataW.trod enc P W 0 (fun _ => true) true fuel tt cs = some x) :
    ∃ (ao : Option Addr) (n cap : Nat) (l : List Sec), cs = [.slice ao n cap] ∧ Secs W ao n l ∧ n ≤ cap ∧ cap ≤ maxLen ∧ (ao = none → cap = 0) ∧ (∀ y ∈ l, IntsT W y.ao y.n y.cap y.zs) ∧
      ((x.1 = .nil ∧ cap = 0) ∨ ∃ ls ss, x.1 = .slice ls ss ∧ ls.length + ss.length = cap ∧ ∀ (i : Nat) (y : Sec), l[i]? = some y → ∃ d, ls[i]? = some d ∧ SecD y d) := by
  rcases Go.Deep.open_slice htt h with ⟨rfl, rfl⟩ | ⟨a, n, cap, m, fu, D, Pl, rfl, _, hl, hm, hmm, rfl, hcell⟩
  · exact ⟨none, 0, 0, [], rfl, ⟨rfl, fun h => absurd h (Nat.lt_irrefl 0), fun y hy => by cases hy⟩, Nat.le_refl _, Nat.zero_le _, fun _ => rfl, fun y hy => (by cases hy), .inl ⟨rfl, rfl⟩⟩
  · simp only [if_true] at hmm
    subst hmm
    rw [ct] at hcell
    obtain ⟨Y, hY⟩ := Go.Deep.choose_lt (α := Sec) (n := m) (p := fun i y => W.cells? 0 (a.add (i * 4)) 4 = some y.cells4 ∧ IntsT W y.ao y.n y.cap y.zs ∧ SecD y (D i)) fun i hi => by
      obtain ⟨cs', h1, h2⟩ := hcell i hi
      obtain ⟨c, sv, wd, ao, k, kc, zs, d, rfl, hc, hsv, hwd, hi, hx, hd⟩ := sec_trod ht g0 g1 g2 g3 hs c1 hts cts hti cti ct h2
      exact ⟨⟨c, sv, wd, ao, k, kc, zs⟩, h1, hi, hc, hsv, hwd, d, hx, hd⟩
    have hlY : ∀ (i : Nat) (y : Sec), ((List.range n).map Y)[i]? = some y → i < n ∧ Y i = y := fun i y hy => by
      rw [List.getElem?_map] at hy
      have hin : i < n := by
        rcases Nat.lt_or_ge i n with h | h
        · exact h
        · rw [List.getElem?_eq_none (by simpa using h)] at hy; cases hy
      rw [List.getElem?_range hin] at hy
      simpa [hin] using hy
    have hmem : ∀ y ∈ (List.range n).map Y, ∃ i, i < n ∧ Y i = y := fun y hy => by
      obtain ⟨i, hi, rfl⟩ := List.mem_map.1 hy
      exact ⟨i, List.mem_range.1 hi, rfl⟩
    have hcl : ∀ (i j : Nat) (u : Value), i < m → (Y i).cells4[j]? = some u → W.cell? ((a.add (i * 4)).add j) = some u := fun i j u hi hu => by
      obtain ⟨_, _, h3⟩ := World.cells?_some (hY i hi).1
      have hj : j < 4 := (List.getElem?_eq_some_iff.1 hu).1
      rw [h3 j hj, hu]
    refine ⟨some a, n, m, (List.range n).map Y, rfl, ⟨by simp, fun h0 => ?_, fun y hy => ?_⟩, hl, hm, fun h => (by cases h), fun y hy => ?_, .inr ⟨_, _, rfl, by simp; omega, fun i y hy => ?_⟩⟩
    · have h1 := hcl 0 0 _ (by omega) rfl
      rw [Nat.zero_mul] at h1
      have hsp : a.spot = none := by
        unfold Addr.add at h1
        simp only [if_true] at h1
        unfold World.cell? at h1
        cases hs : a.spot with
        | none => rfl
        | some k =>
          rw [hs] at h1
          split at h1 <;> simp at h1
      obtain ⟨b, off, sp⟩ := a
      obtain rfl : sp = none := hsp
      refine ⟨b, off, rfl, ?_, fun j y hy => ?_⟩
      · exact World.block_lt_of_cell? _ _ h1
      · obtain ⟨hj, rfl⟩ := hlY j y hy
        have q := fun k u hu => hcl j k u (by omega) hu
        simp only [Addr.add_lit] at q
        exact ⟨q 0 _ rfl, q 1 _ rfl, q 2 _ rfl, q 3 _ rfl⟩
    · obtain ⟨i, hi, rfl⟩ := hmem y hy
      exact (hY i (by omega)).2.1.here
    · obtain ⟨i, hi, rfl⟩ := hmem y hy
      exact (hY i (by omega)).2.1
    · obtain ⟨hi, rfl⟩ := hlY i y hy
      exact ⟨D i, by rw [List.getElem?_map, List.getElem?_range hi]; rfl, (hY i (by omega)).2.2⟩
end Go.Proofs.Sa
