/- What the evaluator asks ahead of an operation; an operation as a whole. Holds for every program. -/
import Derived.Test.YtnfijnioclcnmaaDoorEvOp
import Derived.Test.YtnfijnioclcnmaaDoorEvRegion
import Derived.Test.YtnfijnioclcnmaaDoorEvGrow2
namespace Go.Ev
open Go

def mapTypeOk (P : Program) (t : TypeId) : Bool :=
  match P.underlying t with
  | some (.map k _) => plainKind P k
  | _ => true
def sliceGuard (P : Program) (t : TypeId) (v : Value) (h : AH) : Option AH :=
  match P.underlying t with
  | none => none
  | some (.pointer _) => none
  | some u =>
    match v with
    | .slice (some a) n c =>
      cond (Nat.ble n c)
        (match u with
          | .slice el => match h.get a.block with
            | some (.cells _ e _ _ ex _) => cond (ex || Nat.beq (P.cellsOf e) (P.cellsOf el)) (some (h.rdBit a.block)) none
            | _ => none
          | _ => none) none
    | .slice none n c => cond (Nat.ble n c) (some h) none
    | _ => some h
def isEq : BinOp → Bool
  | .eql | .neq => true
  | _ => false
def guardA (P : Program) (ρ : Operand → Value) (h : AH) : Op → Option AH
  | .move _ | .assign _ | .pick .. | .alloc _ | .box .. | .build .. | .buildSlice .. | .load .. | .store .. | .makeInterface .. | .field .. | .indexAddr .. | .index .. | .typeAssert .. | .extract ..
  | .makeMap .. | .makeSlice .. | .entryStore .. => some h
  | .nilCheck x => match ρ x with
    | .func (.method _) _ _ => none
    | _ => some h
  | .makeFunc fn _ _ => match fn with
    | .yield _ => none
    | _ => some h
  | .slice t x _ _ _ => sliceGuard P t (ρ x) h
  | .fieldAddr s _ f => match P.underlying s with
    | some (.struct fields) => match fields[f]? with
      | some fd => cond (Nat.beq (P.cellsOf fd.type) 0) none (some h)
      | none => none
    | _ => none
  | .lookup t _ i _ | .mapUpdate t _ i _ | .insert t _ i _ | .mapEntry t _ i => cond (mapTypeOk P t && plainKey (ρ i)) (some h) none
  | .range _ x => match ρ x with
    | .map (some _) => none
    | _ => some h
  | .next it _ => match ρ it with
    | .pointer (some a) => match h.get a.block with
      | some (.obj _) => some (h.rdBit a.block)
      | _ => none
    | _ => none
  | .binOp op t x y _ => cond (isEq op)
      (cond (nilPair (ρ x) (ρ y)) (some h) (match ρ x, ρ y, P.underlying t with
        | .pointer (some _), .pointer (some _), some (.pointer _) => some h
        | _, _, _ => none)) none
  | .convert src dst x => match P.underlying src, P.underlying dst, ρ x with
    | some (.slice e), some .string, .slice _ _ _ => match P.underlying e with
      | some (.int .u8) => some h
      | _ => none
    | _, _, _ => none
  | .call c => match c.callee with
    | .builtin .len | .builtin .copy => some h
    | .builtin .delete => match c.argTypes[0]?, (c.args.map ρ)[1]? with
      | some t, some k => cond (mapTypeOk P t && plainKey k) (some h) none
      | _, _ => none
    | _ => none
  | _ => none

section
variable {P : Program}
theorem mapTypeOk_spec {t : TypeId} (h : mapTypeOk P t = true) : MapOk P t := by
  intro k e hk
  simpa [mapTypeOk, hk] using h
/-- Nothing but what is marked as read has turned. -/
def Marked (h h0 : AH) : Prop := h0.t = h.t ∧ h0.n = h.n ∧ h0.wr = h.wr ∧ ∀ id, h.rd.testBit id = true → h0.rd.testBit id = true
theorem Marked.refl (h : AH) : Marked h h := ⟨rfl, rfl, rfl, fun _ e => e⟩
theorem Marked.rdBit (h : AH) (id : Nat) : Marked h (h.rdBit id) := ⟨rfl, rfl, rfl, fun j e => by rw [rd_rdBit, e]; rfl⟩
theorem Marked.ext {h h0 : AH} (m : Marked h h0) : Ext h h0 := ⟨Nat.le_of_eq m.2.1.symm, m.2.2.2, fun id e => by rw [m.2.2.1]; exact e, fun id _ _ => by simp [AH.get, m.1]⟩
theorem Marked.wf {h h0 : AH} (m : Marked h h0) (w : WF h) : WF h0 := ⟨fun id o e => by rw [m.2.1]; exact w.dom id o (by simpa [AH.get, m.1] using e), fun id e => by rw [m.2.1]; exact w.wr id (by rw [← m.2.2.1]; exact e)⟩

theorem sliceGuard_sound {t : TypeId} {v : Value} {h h0 : AH} (e : sliceGuard P t v h = some h0) (wf : WF h) : Marked h h0 ∧
    ∀ {κ : K} {G : Nat → Option AObj} {w : World}, Rel P κ G w → Agree h h0 G → SliceOk P κ t v ∧ ∀ d, P.underlying t = some d → (match d with | .pointer _ => False | _ => True) := by
  unfold sliceGuard at e
  split at e
  · cases e
  · cases e
  · rename_i u hnp hu
    have hd : ∀ d, P.underlying t = some d → (match d with | .pointer _ => False | _ => True) := by
      intro d hd
      rw [hu] at hd; cases hd
      split
      · rename_i x; exact hnp x rfl
      · trivial
    split at e
    · rename_i a n c
      cases hc : Nat.ble n c with
      | false => rw [hc] at e; cases e
      | true =>
        rw [hc] at e
        simp only [cond_true] at e
        split at e
        · rename_i el
          split at e
          · rename_i c0 e0 lo hi ex st hg
            cases hq : (ex || Nat.beq (P.cellsOf e0) (P.cellsOf el)) with
            | false => rw [hq] at e; cases e
            | true =>
              rw [hq] at e
              cases e
              refine ⟨Marked.rdBit h _, fun {κ G w} hrel hag => ⟨⟨by rwa [Nat.ble_eq] at hc, fun e1 he1 b hb => ?_⟩, hd⟩⟩
              rw [hu] at he1; cases he1
              have hGa := hag a.block (wf.dom _ _ hg) (by simp [AH.touched, rd_rdBit])
              rw [hg] at hGa
              obtain ⟨b', hb', hin⟩ := hrel.at_ _ _ hGa
              rw [hb] at hb'; cases hb'
              simp only [Bool.or_eq_true, beq_eq, decide_eq_true_eq] at hq
              rcases hq with hq | hq
              · left; rw [hin.1, hq]
              · cases ex with
                | true => left; exact hin.1
                | false => right; have := hin.2.1; simp only [Bool.false_eq_true, if_false] at this; rw [this, hq]
          · cases e
        · cases e
    · rename_i n c
      cases hc : Nat.ble n c with
      | false => rw [hc] at e; cases e
      | true =>
        rw [hc] at e
        cases e
        exact ⟨Marked.refl _, fun _ _ => ⟨by rwa [Nat.ble_eq] at hc, hd⟩⟩
    · rename_i hn1 hn2
      cases e
      refine ⟨Marked.refl _, fun _ _ => ⟨?_, hd⟩⟩
      unfold SliceOk
      split
      · exact absurd rfl (hn1 _ _ _)
      · exact absurd rfl (hn2 _ _)
      · trivial

theorem guard_sound {ρ : Operand → Value} {h h0 : AH} {op : Op} (e : guardA P ρ h op = some h0) (wf : WF h) : Marked h h0 ∧
    ∀ {κ : K} {G : Nat → Option AObj} {w : World}, Rel P κ G w → Agree h h0 G → OpC P κ ρ op := by
  cases op
  case nilCheck x =>
    simp only [guardA] at e
    split at e
    · cases e
    · rename_i hn
      cases e
      exact ⟨Marked.refl _, fun _ _ n f c heq => hn n f c heq⟩
  case makeFunc fn fs cs =>
    simp only [guardA] at e
    split at e
    · cases e
    · rename_i hn
      cases e
      exact ⟨Marked.refl _, fun _ _ l heq => hn l heq⟩
  case slice t x lo hi mx =>
    have := sliceGuard_sound (P := P) (show sliceGuard P t (ρ x) h = some h0 from e) wf
    exact ⟨this.1, fun hrel hag => this.2 hrel hag⟩
  case fieldAddr s x f =>
    simp only [guardA] at e
    split at e
    · rename_i fields hs
      split at e
      · rename_i fd hf
        cases hb : Nat.beq (P.cellsOf fd.type) 0 with
        | true => rw [hb] at e; cases e
        | false =>
          rw [hb] at e
          cases e
          refine ⟨Marked.refl _, fun _ _ fields' fd' h1 h2 => ?_⟩
          rw [hs] at h1; cases h1
          rw [hf] at h2; cases h2
          rw [beq_eq] at hb
          simpa using hb
      · cases e
    · cases e
  case lookup t x i ok =>
    simp only [guardA] at e
    cases hb : (mapTypeOk P t && plainKey (ρ i)) with
    | false => rw [hb] at e; cases e
    | true => rw [hb] at e; cases e; simp only [Bool.and_eq_true] at hb; exact ⟨Marked.refl _, fun _ _ => ⟨mapTypeOk_spec hb.1, hb.2⟩⟩
  case mapUpdate t m i x =>
    simp only [guardA] at e
    cases hb : (mapTypeOk P t && plainKey (ρ i)) with
    | false => rw [hb] at e; cases e
    | true => rw [hb] at e; cases e; simp only [Bool.and_eq_true] at hb; exact ⟨Marked.refl _, fun _ _ => ⟨mapTypeOk_spec hb.1, hb.2⟩⟩
  case insert t m i x =>
    simp only [guardA] at e
    cases hb : (mapTypeOk P t && plainKey (ρ i)) with
    | false => rw [hb] at e; cases e
    | true => rw [hb] at e; cases e; simp only [Bool.and_eq_true] at hb; exact ⟨Marked.refl _, fun _ _ => ⟨mapTypeOk_spec hb.1, hb.2⟩⟩
  case mapEntry t m i =>
    simp only [guardA] at e
    cases hb : (mapTypeOk P t && plainKey (ρ i)) with
    | false => rw [hb] at e; cases e
    | true => rw [hb] at e; cases e; simp only [Bool.and_eq_true] at hb; exact ⟨Marked.refl _, fun _ _ => ⟨mapTypeOk_spec hb.1, hb.2⟩⟩
  case range t x =>
    simp only [guardA] at e
    split at e
    · cases e
    · rename_i hn
      cases e
      exact ⟨Marked.refl _, fun _ _ m heq => hn m heq⟩
  case next it isS =>
    simp only [guardA] at e
    split at e
    · rename_i a ha
      split at e
      · rename_i o hg
        cases e
        refine ⟨Marked.rdBit h _, fun {κ G w} hrel hag a' ha' b hb => ?_⟩
        rw [ha] at ha'; cases ha'
        have hGa := hag a.block (wf.dom _ _ hg) (by simp [AH.touched, rd_rdBit])
        rw [hg] at hGa
        obtain ⟨b', hb', hin⟩ := hrel.at_ _ _ hGa
        rw [hb] at hb'; cases hb'
        exact hin.1
      · cases e
    · cases e
  case binOp op t x y yt =>
    simp only [guardA] at e
    have ho : isEq op = true → op = .eql ∨ op = .neq := by cases op <;> simp [isEq]
    cases hb : isEq op with
    | false => rw [hb] at e; cases e
    | true =>
      rw [hb] at e
      simp only [cond_true] at e
      cases hn : nilPair (ρ x) (ρ y) with
      | true => rw [hn] at e; cases e; exact ⟨Marked.refl _, fun _ _ => ⟨ho hb, .inl hn⟩⟩
      | false =>
        rw [hn] at e
        simp only [cond_false] at e
        split at e
        · rename_i a b el ha hb' hu
          cases e
          exact ⟨Marked.refl _, fun _ _ => ⟨ho hb, .inr ⟨⟨el, hu⟩, a, b, ha, hb'⟩⟩⟩
        · cases e
  case convert src dst x =>
    simp only [guardA] at e
    split at e
    · rename_i el a n c h1 h2 h3
      split at e
      · rename_i h4
        cases e
        exact ⟨Marked.refl _, fun _ _ => ⟨⟨el, h1, h4, h2⟩, a, n, c, h3⟩⟩
      · cases e
    · cases e
  case call c =>
    simp only [guardA] at e
    split at e
    · rename_i hc; cases e; exact ⟨Marked.refl _, fun _ _ => .inl hc⟩
    · rename_i hc; cases e; exact ⟨Marked.refl _, fun _ _ => .inr (.inl hc)⟩
    · rename_i hc
      split at e
      · rename_i t k h1 h2
        cases hb : (mapTypeOk P t && plainKey k) with
        | false => rw [hb] at e; cases e
        | true =>
          rw [hb] at e
          cases e
          simp only [Bool.and_eq_true] at hb
          refine ⟨Marked.refl _, fun _ _ => .inr (.inr ⟨hc, fun x hx => ?_, fun k' hk => ?_⟩)⟩
          · rw [h1] at hx; cases hx; exact mapTypeOk_spec hb.1
          · rw [h2] at hk; cases hk; exact hb.2
      · cases e
    · cases e
  all_goals first
    | (cases e; exact ⟨Marked.refl _, fun _ _ => trivial⟩)
    | (cases e; done)
end
end Go.Ev
