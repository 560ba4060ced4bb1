/- A certified evaluator of calls, run by the kernel, with its rules for what is not known: what it tells holds of every program. -/
import Derived.ProofKit
import Derived.Test.YtnadimjglkodkaaGreatDoorKit4
namespace Go.Ev
open Go Go.RowKit Go.ChangeShapes Go.WideShapes

section
variable {H : Type} {enc : TypeId × Value → H} {P : Program}
def readable (P : Program) (ts : List TypeId) : Bool := ts.all fun t => P.readableRec t && decide (t < P.types.size)
theorem trodAll_below (hl : laidOutB P = true) {W W' : World} (hb : Below W.heap.size W W') : ∀ {ts : List TypeId} {vs : List Value} {ds : List (DataW H)} {ps : List MemPlace}, readable P ts = true → (∀ x ∈ ps, x.block < W.heap.size) →
    DataW.TrodAll enc P W 0 (fun _ => true) true ts vs ds ps → DataW.TrodAll enc P W' 0 (fun b => decide (b < W.heap.size)) true ts vs ds ps
  | [], vs, ds, ps, _, _, h => by
    obtain ⟨rfl, rfl, rfl⟩ := trodAll_nil h
    rfl
  | t :: ts, vs, ds, ps, hr, hp, h => by
    obtain ⟨v, vs1, d, ds1, a, b, rfl, rfl, rfl, h1, h2⟩ := trodAll_cons h
    simp only [readable, List.all_cons, Bool.and_eq_true, decide_eq_true_eq] at hr
    refine ⟨a, b, Below.trod hl hr.1.1 hr.1.2 h1 hb fun x hx => hp x (by simp [hx]), ?_, rfl⟩
    exact trodAll_below hl hb (by simpa [readable] using hr.2) (fun x hx => hp x (by simp [hx])) h2
theorem post_true {f : Func} {s : ChangeSpec} {apart fresh handsOn : Bool} {W W' : World} {args : Array Value} {ds gs : List (DataW H)} {before : List MemPlace} (hl : laidOutB P = true) (hp : readable P f.params.toList = true)
    (hv : s.vars = []) {tb : TypeId} (hres : f.resultTypes = #[tb]) (htb : P.underlying tb = some .bool) (hfn : (s.fn H (ds ++ gs)).results = [.lit (.bool true)] ∧ (s.fn H (ds ++ gs)).args = ds ∧ (s.fn H (ds ++ gs)).vars = gs)
    (hW : DataW.Whole enc P f.params.toList s.vars apart W args.toList ds gs before) (hb : Below W.heap.size W W') : s.post enc P f apart fresh handsOn false W args (.bool true) W' := by
  have hlt : ∀ x ∈ before, x.block < W.heap.size := fun x hx => hW.lt x hx
  have hW' := hW
  obtain ⟨p, q, hA, hV, rfl, hfz, hnd⟩ := hW
  refine ⟨ds, gs, p ++ q, [], p, q, hW', ?_, ?_, ?_, hb.frame _, fun h => by cases h⟩
  · rw [hres, hfn.1]
    exact trodAll_mk1 (shut_bool htb true)
  · rw [hfn.2.1]
    exact trodAll_below hl hb hp (fun x hx => hlt x (by simp [hx])) hA
  · rw [hfn.2.2]
    rw [hv] at hV ⊢
    obtain ⟨rfl, rfl⟩ := trodVars_none hV
    rfl
/-- A slice that has come in: nil, or a row that is there. -/
theorem slice_came {W : World} {b0 : Nat} {t e : TypeId} {v : Value} (ht : P.underlying t = some (.slice e)) (h : Value.okWide P W .any b0 t v) :
    v = .slice none 0 0 ∨ ∃ a n c, v = .slice (some a) n c ∧ a.spot = none ∧ a.block < W.heap.size := by
  obtain ⟨a, n, c, rfl⟩ := okWide_slice ht h
  simp only [Value.okWide, ht, Cell.okWide, Cell.ok] at h
  cases a with
  | none =>
    left
    match n, c, h with
    | 0, 0, _ => rfl
  | some a =>
    obtain ⟨_, _, _, hs, row, cells, hsh, _⟩ := h
    refine .inr ⟨a, n, c, rfl, hs, ?_⟩
    unfold World.shape? at hsh
    cases hh : W.heap[a.block]? with
    | none => rw [hh] at hsh; cases hsh
    | some o => exact (Array.getElem?_eq_some_iff.1 hh).1
/-- The blocks of arguments, numbered. -/
def kb (bs : List Nat) : K := fun id => (bs[id]?).map fun b => ⟨b, 0, 0, true, 0⟩
theorem vr_came {a : Addr} {n c id : Nat} {bs : List Nat} (hs : a.spot = none) (hb : bs[id]? = some a.block) : VR (kb bs) (.slice (some ⟨id, a.off, none⟩) n c) (.slice (some a) n c) :=
  .slice ⟨rfl, hs, ⟨a.block, 0, 0, true, 0⟩, by unfold kb; rw [hb]; rfl, rfl, .inl ⟨by simp, rfl⟩⟩
theorem evals_blocks (hz : zerosFlat P = true) (hm : P.follows .mixedOrders = true) {n m : Nat} {g : FuncId} {args : List Value} {p : Value → Bool} (e : evals P 0 m n g args p = true) {bs : List Nat} (hlen : bs.length = m) {args' : Array Value} {w : World}
    (hbs : ∀ b ∈ bs, b < w.heap.size) (hargs : VL (kb bs) args args'.toList) : Calls P g args' w fun e w' => ∃ v, e = .returned v ∧ p v = true ∧ Below w.heap.size w w' := by
  refine evals_calls hz hm e (κ := kb bs) (fun g hg => absurd hg (Nat.not_lt_zero _)) (fun id b hb => ?_) hargs
  unfold kb at hb
  cases hi : bs[id]? with
  | none => rw [hi] at hb; cases hb
  | some x =>
    rw [hi] at hb
    cases hb
    refine ⟨hbs x (List.mem_of_getElem? hi), ?_⟩
    rw [← hlen]
    exact (List.getElem?_eq_some_iff.1 hi).1
def isTrue : Value → Bool
  | .bool c => c
  | _ => false
theorem isTrue_eq {v : Value} (h : isTrue v = true) : v = .bool true := by
  cases v <;> first
    | (rename_i c; cases c <;> first | rfl | cases h)
    | cases h
end
end Go.Ev
