/- secrets: Copied. -/
import Derived.Maps.AppendAt
import Derived.OwnWalk
import Derived.Laws.AppendOwnNone
import Derived.Test.YtnadimjglkodkaaDoorPrTeE
namespace Go.Proofs.Sa
open Go Go.RowKit Go.Pl Go.Maps
theorem info95 : (Tryd.prog.info? 95).map (fun i => (i.zero, i.size, i.bytes)) = some (some (.agg #[.string ⟨#[]⟩, .string ⟨#[]⟩, .string ⟨#[]⟩, .slice none 0 0]), 4, 72) := by kernel_rfl
theorem cell_four_new (w : World) (a b c d : Value) (t : TypeId) : ∀ j u, [a, b, c, d][j]? = some u → (w.alloc (.cells #[a, b, c, d] t)).cell? ((⟨w.heap.size, 0, none⟩ : Addr).add j) = some u := by
  intro j u hu
  have hadd : (⟨w.heap.size, 0, none⟩ : Addr).add j = ⟨w.heap.size, j, none⟩ := by unfold Addr.add; split <;> simp_all
  rw [hadd]
  have hh : (w.alloc (.cells #[a, b, c, d] t)).heap[w.heap.size]? = some (.cells #[a, b, c, d] t (0, 0)) := heap_alloc_new w _
  simp only [World.cell?, hh]
  rw [← Array.getElem?_toList]; exact hu
/-- A row of another type grows: the numbers stay. -/
theorem own_grown {base n k m sz : Nat} {w w' : World} {ao : Option Addr} {zs : List Int} {v : Value} {xs : List Value} (hi : Ints w ao n zs) (ho : OwnI base w ao) (hv : w.ownsRow m 95 sz v k xs) (hg : w.grownBy w' v.ownBlock) : Ints w' ao n zs ∧ OwnI base w' ao := by
  have hb : ∀ a, ao = some a → w'.heap[a.block]? = w.heap[a.block]? := fun a ha => by
    obtain ⟨_, cur, h2⟩ := ho a ha
    refine hg.block _ (Array.getElem?_eq_some_iff.1 h2).1 fun e => ?_
    obtain ⟨_, ⟨rfl, _⟩ | ⟨g, cap, cur', rfl, _, h5, _⟩⟩ := hv
    · cases e
    · simp only [Value.ownBlock, Option.some.injEq] at e
      rw [e, h5] at h2
      cases h2
  refine ⟨⟨hi.len, hi.wf, fun h0 => ?_⟩, fun a ha => ?_⟩
  · obtain ⟨b, off, h1, h2, h3⟩ := hi.row h0
    exact ⟨b, off, h1, Nat.lt_of_lt_of_le h2 hg.size, fun j hj => (World.cell?_of_block (a := ⟨b, off + j, none⟩) (hb ⟨b, off, none⟩ h1)).trans (h3 j hj)⟩
  · obtain ⟨h1, cur, h2⟩ := ho a ha
    exact ⟨h1, cur, (hb a ha).trans h2⟩
end Go.Proofs.Sa
