/- A boxed struct of four cells, and worlds that grow. Over any program. -/
import Derived.WalkKit
import Derived.Laws.ResultCell
import Derived.Laws.Rows
namespace Go.Pl
open Go Go.RowKit
theorem below_step {w wc w' : World} (h : Below w.heap.size w wc) (hb : Below wc.heap.size wc w') : Below w.heap.size w w' := h.trans (hb.mono h.size)
/-- Four cells of the block that was new, and where that world began. -/
structure Box4 (w0 : World) (a b c d : Value) (w : World) : Prop where
  below : Below w0.heap.size w0 w
  lt : w0.heap.size < w.heap.size
  k0 : w.cell? ⟨w0.heap.size, 0, none⟩ = some a
  k1 : w.cell? ⟨w0.heap.size, 1, none⟩ = some b
  k2 : w.cell? ⟨w0.heap.size, 2, none⟩ = some c
  k3 : w.cell? ⟨w0.heap.size, 3, none⟩ = some d
theorem Box4.start (w : World) (a b c d : Value) (t : TypeId) : Box4 w a b c d (w.alloc (.cells #[a, b, c, d] t)) := by
  refine ⟨(Below.refl _ _).alloc (Nat.le_refl _) _, by simp, ?_, ?_, ?_, ?_⟩ <;> simp [World.cell?, World.alloc, -World.alloc_eq]
theorem Box4.next {w0 w w' : World} {a b c d : Value} (h : Box4 w0 a b c d w) (hb : Below w.heap.size w w') : Box4 w0 a b c d w' :=
  ⟨h.below.trans (hb.mono (Nat.le_of_lt h.lt)), Nat.lt_of_lt_of_le h.lt hb.size, (hb.cell h.lt).trans h.k0, (hb.cell h.lt).trans h.k1, (hb.cell h.lt).trans h.k2, (hb.cell h.lt).trans h.k3⟩
theorem setCell_same {w : World} {k o : Nat} {c : Array Value} {e : TypeId} {f : Nat × Nat} (h : w.heap[k]? = some (.cells c e f)) (v : Value) : (w.setCell ⟨k, o, none⟩ v).heap[k]? = some (.cells (c.setIfInBounds o v) e f) := by
  simp [World.setCell, Array.getElem?_modify, h]
theorem setCell_other {w : World} {k j o : Nat} (h : j ≠ k) (v : Value) : (w.setCell ⟨k, o, none⟩ v).heap[j]? = w.heap[j]? := by
  simp [World.setCell, Array.getElem?_modify, Ne.symm h]
theorem setCell_size (w : World) (a : Addr) (v : Value) : (w.setCell a v).heap.size = w.heap.size := by simp [World.setCell]
theorem setCell_below {B : Nat} {w0 w : World} (h : Below B w0 w) {k o : Nat} (hk : B ≤ k) (v : Value) : Below B w0 (w.setCell ⟨k, o, none⟩ v) :=
  ⟨h.os, h.tape, h.output, by rw [setCell_size]; exact h.size, fun j hj => by rw [setCell_other (by omega)]; exact h.block j hj⟩
theorem results_cell_row_tmp {P : Program} {fn : Func} {p u : Tmp} {ty : TypeId} (h : fn.results = #[.cell p ty, .tmp u]) (tmps : Array Value) (w : World) (g : Nat) (t : TypeId) (cs : Array Value) (fr : Nat × Nat) (d : TypeDesc)
    (hp : tmps.getD p undef = .pointer (some ⟨g, 0, none⟩)) (hg : w.heap[g]? = some (.cells cs t fr))
    (hu : P.underlying ty = some d) (hd : (match d with | .struct _ | .array _ _ => true | _ => false) = true) (hi : (P.info? ty).map (·.size) = some cs.size) :
    (results fn tmps).run P w = .ok (.tuple #[.agg cs, tmps.getD u undef]) w := by
  have hp' : tmps[p]?.getD undef = .pointer (some ⟨g, 0, none⟩) := by simpa using hp
  rw [results_cell_tmp h]
  simp [hp', asAddr, run_loadVar_row w g t ty cs fr d hg hu hd hi]
end Go.Pl
