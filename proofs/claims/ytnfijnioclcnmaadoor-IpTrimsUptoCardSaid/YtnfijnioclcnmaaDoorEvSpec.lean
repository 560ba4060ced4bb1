/- Appending: where there is room, and where a slice grows (or may grow: its room is not known). Holds for every program. -/
import Derived.Test.YtnfijnioclcnmaaDoorEvOps6
import Derived.Laws.Append
import Derived.Laws.Entries
namespace Go.Ev
open Go
section
variable {P : Program}

/-! ### programs that only read -/

def RO (P : Program) {α : Type} (s : Sem α) : Prop := ∀ w v w', s.run P w = .ok v w' → w' = w
def LO (P : Program) {α : Type} (s : Sem α) : Prop := ∀ h v h', arun P s h = some (v, h') → h'.t = h.t ∧ h'.n = h.n ∧ h'.wr = h.wr
theorem ro_pure {α : Type} (a : α) : RO P (pure a : Sem α) := fun w v w' h => by cases h; rfl
theorem lo_pure {α : Type} (a : α) : LO P (pure a : Sem α) := fun w v w' h => by cases h; exact ⟨rfl, rfl, rfl⟩
theorem ro_halt {α : Type} (x : Halt) : RO P (.halt x : Sem α) := fun w v w' h => by cases h
theorem lo_halt {α : Type} (x : Halt) : LO P (.halt x : Sem α) := fun w v w' h => by cases h
theorem ro_bind {α β : Type} {s : Sem α} {f : α → Sem β} (hs : RO P s) (hf : ∀ a, RO P (f a)) : RO P (s >>= f) := by
  intro w v w' h
  rw [Sem.run_bind] at h
  cases hr : s.run P w with
  | ok a w1 =>
    rw [hr] at h
    simp only [Result.andThen_ok] at h
    have h1 := hf a _ _ _ h
    have h2 := hs _ _ _ hr
    rw [h1, h2]
  | halt x w1 => rw [hr] at h; cases h
theorem lo_bind {α β : Type} {s : Sem α} {f : α → Sem β} (hs : LO P s) (hf : ∀ a, LO P (f a)) : LO P (s >>= f) := by
  intro w v w' h
  have h' : arun P (s.bind f) w = some (v, w') := h
  rw [arun_bind] at h'
  cases hr : arun P s w with
  | none => rw [hr] at h'; cases h'
  | some y =>
    obtain ⟨a, w1⟩ := y
    rw [hr] at h'
    obtain ⟨a1, a2, a3⟩ := hf a _ _ _ h'
    obtain ⟨b1, b2, b3⟩ := hs _ _ _ hr
    exact ⟨a1.trans b1, a2.trans b2, a3.trans b3⟩
theorem ro_load (a : Addr) : RO P (load a) := by
  intro w v w' h
  rw [run_load] at h
  split at h
  · cases h; rfl
  · split at h <;> cases h; rfl
theorem lo_load (a : Addr) : LO P (load a) := by
  intro h v h' e
  simp only [load, arun] at e
  split at e
  · cases e
  split at e
  · split at e
    · cases hv : oneCell _ with
      | false => rw [hv] at e; cases e
      | true => rw [hv] at e; cases e; exact ⟨rfl, rfl, rfl⟩
    · cases e
  · cases e
theorem ro_program : RO P program := fun w v w' h => by cases h; rfl
theorem lo_program : LO P program := fun w v w' h => by cases h; exact ⟨rfl, rfl, rfl⟩
theorem ro_typeInfo (t : TypeId) : RO P (typeInfo t) := ro_bind ro_program fun p => by split; exact ro_pure _; exact ro_halt _
theorem lo_typeInfo (t : TypeId) : LO P (typeInfo t) := lo_bind lo_program fun p => by split; exact lo_pure _; exact lo_halt _
theorem ro_underlying (t : TypeId) : RO P (underlying t) := ro_bind ro_program fun p => by split; exact ro_pure _; exact ro_halt _
theorem lo_underlying (t : TypeId) : LO P (underlying t) := lo_bind lo_program fun p => by split; exact lo_pure _; exact lo_halt _
theorem ro_sizeOf (t : TypeId) : RO P (sizeOf t) := ro_bind (ro_typeInfo t) fun _ => ro_pure _
theorem lo_sizeOf (t : TypeId) : LO P (sizeOf t) := lo_bind (lo_typeInfo t) fun _ => lo_pure _
theorem ro_isAgg (t : TypeId) : RO P (isAgg t) := ro_bind (ro_underlying t) fun d => by split <;> exact ro_pure _
theorem lo_isAgg (t : TypeId) : LO P (isAgg t) := lo_bind (lo_underlying t) fun d => by split <;> exact lo_pure _
theorem ro_loadCellsFrom (a : Addr) : ∀ (n i : Nat) (acc : Array Value), RO P (loadCellsFrom a i n acc)
  | 0, _, _ => ro_pure _
  | n + 1, i, acc => ro_bind (ro_load _) fun v => ro_loadCellsFrom a n (i + 1) (acc.push v)
theorem lo_loadCellsFrom (a : Addr) : ∀ (n i : Nat) (acc : Array Value), LO P (loadCellsFrom a i n acc)
  | 0, _, _ => lo_pure _
  | n + 1, i, acc => lo_bind (lo_load _) fun v => lo_loadCellsFrom a n (i + 1) (acc.push v)
theorem ro_firstCells (s n : Nat) (v : Value) : RO P (Builtin.firstCells s n v) := by
  cases v with
  | slice a m c => cases a with
    | none => exact ro_pure _
    | some a => exact ro_loadCellsFrom _ _ _ _
  | string s => exact ro_pure _
  | _ => exact ro_halt _
theorem lo_firstCells (s n : Nat) (v : Value) : LO P (Builtin.firstCells s n v) := by
  cases v with
  | slice a m c => cases a with
    | none => exact lo_pure _
    | some a => exact lo_loadCellsFrom _ _ _ _
  | string s => exact lo_pure _
  | _ => exact lo_halt _
theorem ro_asAddr (v : Value) : RO P (asAddr v) := by
  cases v with
  | pointer a => cases a with
    | some a => exact ro_pure _
    | none => intro w v w' h; simp [asAddr, runtimePanic] at h
  | _ => exact ro_halt _
theorem lo_asAddr (v : Value) : LO P (asAddr v) := by
  cases v with
  | pointer a => cases a with
    | some a => exact lo_pure _
    | none => intro w v w' h; cases h
  | _ => exact lo_halt _
theorem ro_loadVar (t : TypeId) (a : Addr) : RO P (loadVar t a) := ro_bind (ro_isAgg t) fun c => by
  split
  · exact ro_bind (ro_sizeOf t) fun n => ro_bind (ro_loadCellsFrom a n 0 _) fun _ => ro_pure _
  · exact ro_load a
theorem lo_loadVar (t : TypeId) (a : Addr) : LO P (loadVar t a) := lo_bind (lo_isAgg t) fun c => by
  split
  · exact lo_bind (lo_sizeOf t) fun n => lo_bind (lo_loadCellsFrom a n 0 _) fun _ => lo_pure _
  · exact lo_load a
theorem ro_mapM {α β : Type} {f : α → Sem β} (hf : ∀ a, RO P (f a)) : ∀ l : List α, RO P (l.mapM f)
  | [] => by simp only [List.mapM_nil]; exact ro_pure _
  | a :: l => by simp only [List.mapM_cons]; exact ro_bind (hf a) fun _ => ro_bind (ro_mapM hf l) fun _ => ro_pure _
theorem lo_mapM {α β : Type} {f : α → Sem β} (hf : ∀ a, LO P (f a)) : ∀ l : List α, LO P (l.mapM f)
  | [] => by simp only [List.mapM_nil]; exact lo_pure _
  | a :: l => by simp only [List.mapM_cons]; exact lo_bind (hf a) fun _ => lo_bind (lo_mapM hf l) fun _ => lo_pure _

/-- A run that only reads: the same world, the same names, the same heap. -/
theorem read_sim {α β : Type} {R : K → α → β → Prop} {κ : K} {s : Sem α} {s' : Sem β} (hs : SR P R κ s s') (hl : LO P s) (hr : RO P s') {h : AH} {a : α} {h2 : AH}
    (e : arun P s h = some (a, h2)) (wf : WF h) {G : Nat → Option AObj} {w : World} (hrel : Rel P κ G w) (hag : Agree h h2 G) :
    ∃ b, s'.run P w = .ok b w ∧ R κ a b := by
  obtain ⟨h1, h2', h3⟩ := hl _ _ _ e
  obtain ⟨κ', b, w', hrun, hR, _, hkx⟩ := run_sim hs h a h2 e wf G w hrel hag (fun id x y => by omega)
  have := hr _ _ _ hrun
  subst this
  have hκ : κ' = κ := funext fun id => hkx.dom id (by omega)
  subst hκ
  exact ⟨b, hrun, hR⟩
theorem merge_read {h h1 : AH} {G : Nat → Option AObj} (wf : WF h) (hl : h1.t = h.t ∧ h1.n = h.n ∧ h1.wr = h.wr) (hag : Agree h h1 G) : merge h h1 G = G := by
  funext id
  unfold merge
  split
  · rename_i hx
    rcases hx with hx | hx
    · omega
    · rw [hl.2.2] at hx
      rw [hag id (wf.wr id hx) (by simp [AH.touched, hl.2.2, hx])]
      simp [AH.get, hl.1]
  · rfl

/-! ### a block that is given up -/

theorem get_kill {h : AH} {id : Nat} (hs : small id = true) (j : Nat) : (h.kill id).get j = if j = id then none else h.get j := by
  unfold AH.kill AH.get
  exact T.get_set 24 h.t id none j (small_lt hs)
theorem wr_kill (h : AH) (id j : Nat) : (h.kill id).wr.testBit j = (h.wr.testBit j || decide (j = id)) := by
  unfold AH.kill; exact testBit_or_shift _ _ _
theorem ext_kill {h : AH} {id : Nat} (hs : small id = true) : Ext h (h.kill id) :=
  ⟨Nat.le_refl _, fun j e => e, fun j e => by rw [wr_kill, e]; rfl, fun j _ hw => by
    rw [wr_kill] at hw
    simp only [Bool.or_eq_false_iff, decide_eq_false_iff_not] at hw
    rw [get_kill hs, if_neg hw.2]⟩
theorem wf_kill {h : AH} (w : WF h) {id : Nat} (hs : small id = true) (hl : id < h.n) : WF (h.kill id) := by
  refine ⟨fun j x e => ?_, fun j e => ?_⟩
  · rw [get_kill hs] at e
    by_cases hj : j = id
    · subst hj; exact hl
    · rw [if_neg hj] at e; exact w.dom j x e
  · rw [wr_kill] at e
    simp only [Bool.or_eq_true, decide_eq_true_eq] at e
    rcases e with e | e
    · exact w.wr j e
    · subst e; exact hl
theorem merge_kill {h h2 : AH} {G : Nat → Option AObj} (w : WF h) (e : Ext h h2) (ha : Agree h h2 G) {id : Nat} (hs : small id = true) :
    merge h (h.kill id) G = fun j => if j = id then none else G j := by
  funext j
  unfold merge
  rw [wr_kill, get_kill hs]
  by_cases hj : j = id
  · subst hj; simp
  · rw [if_neg hj, if_neg hj]
    split
    · rename_i hx
      rcases hx with hx | hx
      · exact absurd hx (by show ¬ (h.n ≤ j ∧ j < h.n); omega)
      · simp only [hj, decide_false, Bool.or_false] at hx
        exact (ha j (w.wr j hx) (touched_mono e (by simp [AH.touched, hx]))).symm
    · rfl
theorem Rel.sub {κ : K} {G G' : Nat → Option AObj} {w : World} (h : Rel P κ G w) (hs : ∀ id o, G' id = some o → G id = some o) : Rel P κ G' w :=
  ⟨fun id o e => h.at_ id o (hs id o e), fun id id' o o' b b' e e' => h.one id id' o o' b b' (hs id o e) (hs id' o' e'), h.old⟩

/-! ### appending where there is room -/

theorem sr_firstCells_zero {κ : K} (size : Nat) {v v' : Value} (h : VR κ v v') : SR P (fun _ a b => a = #[] ∧ b = #[]) κ (Builtin.firstCells size 0 v) (Builtin.firstCells size 0 v') := by
  cases h with
  | slice hs =>
    have e1 : ∀ (x : Addr) (m c : Nat), Builtin.firstCells size 0 (.slice (some x) m c) = pure #[] := fun x m c => by
      show loadCells x (0 * size) = _
      rw [Nat.zero_mul]; rfl
    rw [e1, e1]
    exact .pure ⟨rfl, rfl⟩
  | sliceNil _ _ => exact .pure ⟨rfl, rfl⟩
  | string s =>
    have e1 : Builtin.firstCells size 0 (.string s) = pure #[] := by
      show pure _ = pure _
      congr 1
      apply Array.eq_empty_of_size_eq_zero
      simp
    rw [e1]
    exact .pure ⟨rfl, rfl⟩
  | _ => exact .halt

theorem sr_lenOf' {κ : K} {v v' : Value} (h : VR κ v v') : SR P (fun κ' (a b : Nat) => κ' = κ ∧ a = b ∧ ∀ x m c, v = .slice (some x) m c → a = m) κ (Builtin.lenOf v) (Builtin.lenOf v') := by
  cases h with
  | slice hs => exact .pure ⟨rfl, rfl, fun _ _ _ e => (by cases e; rfl)⟩
  | sliceNil n c => exact .pure ⟨rfl, rfl, fun _ _ _ e => (by cases e)⟩
  | string s => exact .pure ⟨rfl, rfl, fun _ _ _ e => (by cases e)⟩
  | _ => exact .halt

end
end Go.Ev
