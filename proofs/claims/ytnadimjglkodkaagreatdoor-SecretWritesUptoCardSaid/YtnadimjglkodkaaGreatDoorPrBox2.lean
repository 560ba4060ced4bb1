/- a cell that is written: what it holds, and that all else stays. Over any program. -/
import Derived.Laws.AppendOwn
import Derived.Test.YtnadimjglkodkaaGreatDoorPrBox
namespace Go.Proofs.Sr
open Go Go.RowKit Go.Pl
theorem set_grown (w : World) (t o : Nat) (u : Value) : w.grownBy (w.setCell ⟨t, o, none⟩ u) (some t) :=
  ⟨rfl, rfl, rfl, by rw [setCell_size]; exact Nat.le_refl _, fun k _ hk => setCell_other (fun e => hk (by rw [e])) u⟩
theorem cell_set {w : World} {t o : Nat} {v : Value} (h : w.cell? ⟨t, o, none⟩ = some v) (u : Value) : (w.setCell ⟨t, o, none⟩ u).cell? ⟨t, o, none⟩ = some u := by
  unfold World.cell? at h
  cases hh : w.heap[t]? with
  | none => rw [hh] at h; cases h
  | some ob =>
    rw [hh] at h
    cases ob with
    | cells c e f =>
      have ho : o < c.size := (Array.getElem?_eq_some_iff.1 (by simpa using h)).1
      simp only [World.cell?, setCell_same hh]
      simp [ho]
    | _ => cases h
theorem froz_set {w : World} {t o : Nat} {v : Value} (h : w.cell? ⟨t, o, none⟩ = some v) (hf : w.frozen? ⟨t, o, none⟩ = false) (u : Value) : (w.setCell ⟨t, o, none⟩ u).frozen? ⟨t, o, none⟩ = false := by
  unfold World.cell? at h
  cases hh : w.heap[t]? with
  | none => rw [hh] at h; cases h
  | some ob =>
    rw [hh] at h
    cases ob with
    | cells c e f =>
      simp only [World.frozen?, setCell_same hh]
      simpa only [World.frozen?, hh] using hf
    | _ => cases h
end Go.Proofs.Sr
