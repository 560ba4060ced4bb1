/- A run of an operation in the world agrees with its run over the abstract heap. Holds for every program. -/
import Derived.Test.YtnfijnioclcnmaaDoorEvBase
namespace Go.Ev
open Go

structure WF (h : AH) : Prop where
  dom : ∀ id o, h.get id = some o → id < h.n
  wr : ∀ id, h.wr.testBit id = true → id < h.n

theorem small_lt {id : Nat} (h : small id = true) : id + 1 < 2 ^ 24 := by
  unfold small at h
  have := Nat.blt_eq ▸ h
  omega
theorem get_put {h : AH} {id : Nat} (hs : small id = true) (o : AObj) (j : Nat) : (h.put id o).get j = if j = id then some o else h.get j := by
  unfold AH.put AH.get
  exact T.get_set 24 h.t id (some o) j (small_lt hs)
theorem get_push {h : AH} (hs : small h.n = true) (o : AObj) (j : Nat) : (h.push o).get j = if j = h.n then some o else h.get j := by
  unfold AH.push AH.get
  exact T.get_set 24 h.t h.n (some o) j (small_lt hs)
theorem wr_put (h : AH) (id : Nat) (o : AObj) (j : Nat) : (h.put id o).wr.testBit j = (h.wr.testBit j || decide (j = id)) := by
  unfold AH.put; exact testBit_or_shift _ _ _
theorem rd_rdBit (h : AH) (id j : Nat) : (h.rdBit id).rd.testBit j = (h.rd.testBit j || decide (j = id)) := by
  unfold AH.rdBit; exact testBit_or_shift _ _ _

theorem ext_rdBit (h : AH) (id : Nat) : Ext h (h.rdBit id) :=
  ⟨Nat.le_refl _, fun j e => by rw [rd_rdBit, e]; rfl, fun _ e => e, fun _ _ _ => rfl⟩
theorem wf_rdBit {h : AH} (w : WF h) (id : Nat) : WF (h.rdBit id) := ⟨w.dom, w.wr⟩
theorem ext_put {h : AH} {id : Nat} (hs : small id = true) (o : AObj) : Ext h (h.put id o) :=
  ⟨Nat.le_refl _, fun j e => e, fun j e => by rw [wr_put, e]; rfl, fun j _ hw => by
    rw [wr_put] at hw
    simp only [Bool.or_eq_false_iff, decide_eq_false_iff_not] at hw
    rw [get_put hs, if_neg hw.2]⟩
theorem wf_put {h : AH} (w : WF h) {id : Nat} (hs : small id = true) (hl : id < h.n) (o : AObj) : WF (h.put id o) := by
  refine ⟨fun j x e => ?_, fun j e => ?_⟩
  · rw [get_put hs] at e
    by_cases hj : j = id
    · subst hj; exact hl
    · rw [if_neg hj] at e; exact w.dom j x e
  · rw [wr_put] at e
    simp only [Bool.or_eq_true, decide_eq_true_eq] at e
    rcases e with e | e
    · exact w.wr j e
    · subst e; exact hl
theorem ext_push {h : AH} (_w : WF h) (hs : small h.n = true) (o : AObj) : Ext h (h.push o) :=
  ⟨by simp [AH.push], fun j e => e, fun j e => e, fun j hj _ => by rw [get_push hs, if_neg (by omega)]⟩
theorem wf_push {h : AH} (w : WF h) (hs : small h.n = true) (o : AObj) : WF (h.push o) := by
  refine ⟨fun j x e => ?_, fun j e => ?_⟩
  · rw [get_push hs] at e
    show j < h.n + 1
    by_cases hj : j = h.n
    · omega
    · rw [if_neg hj] at e; have := w.dom j x e; omega
  · have := w.wr j e
    show j < h.n + 1
    omega

theorem arun_ext {α : Type} (P : Program) (s : Sem α) : ∀ (h : AH) (a : α) (h2 : AH), arun P s h = some (a, h2) → WF h → Ext h h2 ∧ WF h2 := by
  induction s with
  | pure a => intro h b h2 e w; simp only [arun, Option.some.injEq, Prod.mk.injEq] at e; obtain ⟨_, rfl⟩ := e; exact ⟨Ext.refl _, w⟩
  | load m a k ih =>
    intro h b h2 e w
    simp only [arun] at e
    split at e
    · cases e
    split at e
    · split at e
      · rename_i v _
        cases hv1 : oneCell v with
        | false => rw [hv1] at e; cases e
        | true =>
          rw [hv1] at e
          have := ih _ _ _ _ e (wf_rdBit w _)
          exact ⟨(ext_rdBit h _).trans this.1, this.2⟩
      · cases e
    · cases e
  | store m a v k ih =>
    intro h b h2 e w
    simp only [arun] at e
    split at e
    · cases e
    split at e
    · rename_i c el lo hi ex st hg
      cases hc : (oneCell v && small a.block && Nat.blt a.off c.length && !(Nat.blt hi lo || (Nat.ble lo a.off && Nat.blt a.off hi))) with
      | false => rw [hc] at e; cases e
      | true =>
        rw [hc] at e
        simp only [Bool.and_eq_true] at hc
        have hs := hc.1.1.2
        have := ih _ _ _ e (wf_put w hs (w.dom _ _ hg) _)
        exact ⟨(ext_put hs _).trans this.1, this.2⟩
    · cases e
  | new o k ih =>
    intro h b h2 e w
    simp only [arun] at e
    split at e
    · cases hs : small h.n with
      | false => rw [hs] at e; cases e
      | true =>
        rw [hs] at e
        have := ih _ _ _ _ e (wf_push w hs _)
        exact ⟨(ext_push w hs _).trans this.1, this.2⟩
    · cases e
  | shape r k ih =>
    intro h b h2 e w
    simp only [arun] at e
    split at e
    · rename_i lo hi _ _
      cases hlh : Nat.ble lo hi with
      | false => rw [hlh] at e; cases e
      | true =>
        rw [hlh] at e
        have := ih _ _ _ _ e (wf_rdBit w _)
        exact ⟨(ext_rdBit h _).trans this.1, this.2⟩
    · have := ih _ _ _ _ e (wf_rdBit w _)
      exact ⟨(ext_rdBit h _).trans this.1, this.2⟩
    · cases e
  | freeze a n k ih => intro h b h2 e; cases e
  | frozen a k ih => intro h b h2 e; cases e
  | getObj r k ih =>
    intro h b h2 e w
    simp only [arun] at e
    split at e
    · have := ih _ _ _ _ e (wf_rdBit w _)
      exact ⟨(ext_rdBit h _).trans this.1, this.2⟩
    · cases e
  | setObj r o k ih =>
    intro h b h2 e w
    simp only [arun] at e
    split at e
    · rename_i hg _
      cases hs : small r with
      | false => rw [hs] at e; cases e
      | true =>
        rw [hs] at e
        have := ih _ _ _ e (wf_put w hs (w.dom _ _ hg) _)
        exact ⟨(ext_put hs _).trans this.1, this.2⟩
    · cases e
  | choose q k ih =>
    intro h b h2 e w
    simp only [arun] at e
    cases hq : q.forced with
    | false => rw [hq] at e; cases e
    | true => rw [hq] at e; exact ih _ _ _ _ e w
  | sys c k ih => intro h b h2 e; cases e
  | program k ih => intro h b h2 e w; exact ih _ _ _ _ e w
  | mark m k ih => intro h b h2 e w; exact ih _ _ _ e w
  | halt x => intro h b h2 e; cases e

theorem merge_self {h : AH} {G : Nat → Option AObj} (w : WF h) (ha : Agree h h G) : merge h h G = G := by
  funext id
  unfold merge
  split
  · rename_i hx
    rcases hx with hx | hx
    · omega
    · exact (ha id (w.wr id hx) (by simp [AH.touched, hx])).symm
  · rfl
theorem merge_put {h h2 : AH} {G : Nat → Option AObj} (w : WF h) (e : Ext h h2) (ha : Agree h h2 G) {id : Nat} (hs : small id = true) (o : AObj) :
    merge h (h.put id o) G = fun j => if j = id then some o else G j := by
  funext j
  unfold merge
  rw [wr_put, get_put hs]
  by_cases hj : j = id
  · subst hj; simp
  · rw [if_neg hj, if_neg hj]
    split
    · rename_i hx
      rcases hx with hx | hx
      · exact absurd hx (by show ¬ (h.n ≤ j ∧ j < h.n); omega)
      · simp only [hj, decide_false, Bool.or_false] at hx
        exact (ha j (w.wr j hx) (touched_mono e (by simp [AH.touched, hx]))).symm
    · rfl
theorem merge_push {h h2 : AH} {G : Nat → Option AObj} (w : WF h) (e : Ext h h2) (ha : Agree h h2 G) (hs : small h.n = true) (o : AObj) :
    merge h (h.push o) G = fun j => if j = h.n then some o else G j := by
  funext j
  unfold merge
  rw [get_push hs]
  by_cases hj : j = h.n
  · subst hj; rw [if_pos rfl, if_pos rfl, if_pos]; exact .inl ⟨Nat.le_refl _, by show h.n < h.n + 1; omega⟩
  · rw [if_neg hj, if_neg hj]
    split
    · rename_i hx
      rcases hx with hx | hx
      · exact absurd hx (by show ¬ (h.n ≤ j ∧ j < h.n + 1); omega)
      · have hx' : h.wr.testBit j = true := hx
        exact (ha j (w.wr j hx') (touched_mono e (by simp [AH.touched, hx']))).symm
    · rfl

theorem absObj_eq {o : Obj} {ao : AObj} (h : absObj o = some ao) : ao = .obj o := by
  unfold absObj at h
  split at h <;> first | (cases h; rfl) | cases h
theorem ObjR.notCells {κ : K} {o o' : Obj} (h : ObjR κ o o') : (∀ c e f, o' ≠ .cells c e f) ∧ (∀ c e f, o ≠ .cells c e f) := by
  cases h <;> exact ⟨fun _ _ _ e => (by cases e), fun _ _ _ e => (by cases e)⟩

/-! ### what a store, a new block and a new object do to the world -/

theorem heap_setCell (w : World) (a : Addr) (v : Value) (k : Nat) (hk : k ≠ a.block) : (w.setCell a v).heap[k]? = w.heap[k]? := by
  simp only [World.setCell]
  rw [Array.getElem?_modify]
  simp [Ne.symm hk]
theorem heap_setCell_same {w : World} {a : Addr} {c : Array Value} {e : TypeId} {f : Nat × Nat} (h : w.heap[a.block]? = some (.cells c e f)) (hs : a.spot = none) (v : Value) :
    (w.setCell a v).heap[a.block]? = some (.cells (c.setIfInBounds a.off v) e f) := by
  simp only [World.setCell]
  rw [Array.getElem?_modify]
  simp [h, hs]

theorem Rel.store {P : Program} {κ : K} {G : Nat → Option AObj} {w : World} (hr : Rel P κ G w) {id : Nat} {b : BI} {c : List Value} {e : TypeId} {lo hi : Nat} {ex st : Bool}
    (hG : G id = some (.cells c e lo hi ex st)) (hb : κ id = some b) (hlh : lo ≤ hi) {off : Nat} (ho : off < c.length) {v v' : Value} (hv : VR κ v v') :
    Rel P κ (fun j => if j = id then some (.cells (c.set off v) e lo hi ex st) else G j) (w.setCell ⟨b.blk, b.sh + off, none⟩ v') := by
  obtain ⟨b', hb', ho1, ho2, ho3, c', fz, ⟨e', hc, het⟩, hsz, hcells, hfz⟩ := hr.at_ id _ hG
  obtain rfl : b' = b := Option.some.inj (hb'.symm.trans hb)
  have hnew := heap_setCell_same (a := ⟨b'.blk, b'.sh + off, none⟩) hc rfl v'
  refine ⟨fun j o hj => ?_, fun j j' o o' x x' hj hj' hx hx' hblk hvw => ?_, fun j x hx => by rw [World.size_setCell]; exact hr.old j x hx⟩
  · by_cases hji : j = id
    · subst hji
      simp only [if_true, Option.some.injEq] at hj
      subst hj
      refine ⟨b', hb, ho1, by simpa using ho2, by simpa using ho3, _, fz, ⟨e', hnew, het⟩, by simpa using hsz, fun i u hu => ?_, hfz⟩
      rw [List.getElem?_set] at hu
      by_cases hi : off = i
      · subst hi
        simp only [if_true, ho, Option.some.injEq] at hu
        subst hu
        refine ⟨v', ?_, fun _ => hv⟩
        rw [Array.getElem?_setIfInBounds]
        simp
        omega
      · rw [if_neg hi] at hu
        obtain ⟨u', h1, h2⟩ := hcells i u hu
        refine ⟨u', ?_, h2⟩
        rw [Array.getElem?_setIfInBounds, if_neg (by simp; omega)]
        exact h1
    · simp only [hji, if_false] at hj
      obtain ⟨x, hx, hin⟩ := hr.at_ j o hj
      refine ⟨x, hx, hin.heap (heap_setCell _ _ _ _ ?_)⟩
      intro heq
      exact hji (hr.one j id _ _ x b' hj hG hx hb heq (by rw [view_typed hlh, Bool.and_false]))
  · have f : ∀ j o, (if j = id then some (AObj.cells (c.set off v) e lo hi ex st) else G j) = some o → ∃ o1, G j = some o1 ∧ (o1.view = true → o.view = true) := by
      intro j o h
      by_cases hji : j = id
      · subst hji; exact ⟨_, hG, fun h => by rw [view_typed hlh] at h; cases h⟩
      · rw [if_neg hji] at h; exact ⟨_, h, fun h => h⟩
    obtain ⟨o1, h1, v1⟩ := f j o hj
    obtain ⟨o2, h2, v2⟩ := f j' o' hj'
    exact hr.one j j' o1 o2 x x' h1 h2 hx hx' hblk (view_and hvw v1 v2)

theorem heap_push_old {w : World} {o : Obj} {k : Nat} (h : k < w.heap.size) : ({ w with heap := w.heap.push o } : World).heap[k]? = w.heap[k]? := by
  simp only []
  rw [Array.getElem?_push, if_neg (by omega)]
theorem heap_push_new (w : World) (o : Obj) : ({ w with heap := w.heap.push o } : World).heap[w.heap.size]? = some o := by simp

theorem Rel.alloc {P : Program} {κ : K} {G : Nat → Option AObj} {w : World} (hr : Rel P κ G w) {id : Nat} (hG : G id = none) (hid : κ id = none) {o : AObj} {o' : Obj} {b : BI}
    (hb : b.blk = w.heap.size)
    (hin : ObjIn P (fun j => if j = id then some b else κ j) b { w with heap := w.heap.push o' } o) :
    Rel P (fun j => if j = id then some b else κ j) (fun j => if j = id then some o else G j) { w with heap := w.heap.push o' } := by
  have hle : K.le κ (fun j => if j = id then some b else κ j) := fun j x hx => by
    by_cases hj : j = id
    · subst hj; rw [hid] at hx; cases hx
    · simp only [hj, if_false]; exact hx
  refine ⟨fun j x hj => ?_, fun j j' x x' y y' hj hj' hy hy' hblk hvw => ?_, fun j x hx => ?_⟩
  · by_cases hji : j = id
    · subst hji
      simp only [if_true, Option.some.injEq] at hj
      subst hj
      exact ⟨b, by simp, hin⟩
    · simp only [hji, if_false] at hj
      obtain ⟨y, hy, hyin⟩ := hr.at_ j x hj
      exact ⟨y, by simp only [hji, if_false]; exact hy, (hyin.mono hle).heap (heap_push_old hyin.lt)⟩
  · by_cases hji : j = id <;> by_cases hji' : j' = id
    · rw [hji, hji']
    · simp only [hji, if_true, hji', if_false, Option.some.injEq] at hj hj' hy hy'
      subst hy
      have := hr.old j' y' hy'
      omega
    · simp only [hji, if_false, hji', if_true, Option.some.injEq] at hj hj' hy hy'
      subst hy'
      have := hr.old j y hy
      omega
    · simp only [hji, hji', if_false] at hj hj' hy hy'
      exact hr.one j j' x x' y y' hj hj' hy hy' hblk hvw
  · show x.blk < (w.heap.push o').size
    rw [Array.size_push]
    by_cases hji : j = id
    · simp only [hji, if_true, Option.some.injEq] at hx; subst hx; omega
    · simp only [hji, if_false] at hx; have := hr.old j x hx; omega

theorem Rel.setObj {P : Program} {κ : K} {G : Nat → Option AObj} {w : World} (hr : Rel P κ G w) {id : Nat} {b : BI} {x o o' : Obj} (hG : G id = some (.obj x)) (hb : κ id = some b) (ho : ObjR κ o o') :
    Rel P κ (fun j => if j = id then some (.obj o) else G j) { w with heap := w.heap.setIfInBounds b.blk o' } := by
  obtain ⟨b', hb', hsh, x', hx1, hx2⟩ := hr.at_ id _ hG
  obtain rfl : b' = b := Option.some.inj (hb'.symm.trans hb)
  have hlt : b'.blk < w.heap.size := hr.old id b' hb
  refine ⟨fun j y hj => ?_, fun j j' y y' z z' hj hj' hz hz' hblk hvw => ?_, fun j y hy => by show y.blk < (w.heap.setIfInBounds b'.blk o').size; rw [Array.size_setIfInBounds]; exact hr.old j y hy⟩
  · by_cases hji : j = id
    · subst hji
      simp only [if_true, Option.some.injEq] at hj
      subst hj
      exact ⟨b', hb, hsh, o', by simp [hlt], ho⟩
    · simp only [hji, if_false] at hj
      obtain ⟨z, hz, hin⟩ := hr.at_ j y hj
      refine ⟨z, hz, hin.heap ?_⟩
      show (w.heap.setIfInBounds b'.blk o')[z.blk]? = _
      rw [Array.getElem?_setIfInBounds, if_neg]
      intro heq
      exact hji (hr.one j id _ _ z b' hj hG hz hb heq.symm (by simp [AObj.view]))
  · have f : ∀ j y, (if j = id then some (AObj.obj o) else G j) = some y → ∃ o1, G j = some o1 ∧ (o1.view = true → y.view = true) := by
      intro j y h
      by_cases hji : j = id
      · subst hji; exact ⟨_, hG, fun h => by cases h⟩
      · rw [if_neg hji] at h; exact ⟨_, h, fun h => h⟩
    obtain ⟨o1, h1, v1⟩ := f j y hj
    obtain ⟨o2, h2, v2⟩ := f j' y' hj'
    exact hr.one j j' o1 o2 z z' h1 h2 hz hz' hblk (view_and hvw v1 v2)

/-! ### two programs of one shape -/

inductive SR (P : Program) {α β : Type} (R : K → α → β → Prop) : K → Sem α → Sem β → Prop
  | pure {κ : K} {a : α} {b : β} : R κ a b → SR P R κ (.pure a) (.pure b)
  | load {κ : K} {m : Mode} {a a' : Addr} {k : Value → Sem α} {k' : Value → Sem β} : AddrR κ a a' → (∀ v v', VR κ v v' → SR P R κ (k v) (k' v')) → SR P R κ (.load m a k) (.load m a' k')
  | store {κ : K} {m : Mode} {a a' : Addr} {v v' : Value} {k : Sem α} {k' : Sem β} : AddrR κ a a' → VR κ v v' → SR P R κ k k' → SR P R κ (.store m a v k) (.store m a' v' k')
  | new {κ : K} {o o' : Obj} {k : Nat → Sem α} {k' : Nat → Sem β} : NewR κ o o' → (∀ κ' r b, κ.le κ' → κ' r = some b → b.sh = 0 → SR P R κ' (k r) (k' b.blk)) → SR P R κ (.new o k) (.new o' k')
  | shape {κ : K} {r : Nat} {b : BI} {k : Option (TypeId × Nat) → Sem α} {k' : Option (TypeId × Nat) → Sem β} : κ r = some b → (∀ s, SR P R κ (k s) (k' s)) → SR P R κ (.shape r k) (.shape b.blk k')
  | getObj {κ : K} {r : Nat} {b : BI} {k : Obj → Sem α} {k' : Obj → Sem β} : κ r = some b → (∀ o o', ObjR κ o o' → SR P R κ (k o) (k' o')) → SR P R κ (.getObj r k) (.getObj b.blk k')
  | setObj {κ : K} {r : Nat} {b : BI} {o o' : Obj} {k : Sem α} {k' : Sem β} : κ r = some b → ObjR κ o o' → SR P R κ k k' → SR P R κ (.setObj r o k) (.setObj b.blk o' k')
  | choose {κ : K} {q : Question} {k : Nat → Sem α} {k' : Nat → Sem β} : (q.forced = true → SR P R κ (k 0) (k' 0)) → SR P R κ (.choose q k) (.choose q k')
  | program {κ : K} {k : Program → Sem α} {k' : Program → Sem β} : SR P R κ (k P) (k' P) → SR P R κ (.program k) (.program k')
  | mark {κ : K} {m : Mark} {k : Sem α} {k' : Sem β} : SR P R κ k k' → SR P R κ (.mark m k) (.mark m k')
  | triv {κ : K} {s : Sem α} {s' : Sem β} : (∀ h, arun P s h = none) → SR P R κ s s'

theorem SR.halt {P : Program} {α β : Type} {R : K → α → β → Prop} {κ : K} {x : Halt} {s' : Sem β} : SR P R κ (.halt x) s' := .triv fun _ => rfl

theorem oneCell_of {κ : K} {v v' : Value} (h : VR κ v v') (ho : oneCell v = true) : ∀ c, v' ≠ .agg c ∧ v' ≠ .tuple c := by
  intro c
  cases h <;> first | (simp [oneCell] at ho; done) | exact ⟨fun e => (by cases e), fun e => (by cases e)⟩

theorem run_sim {P : Program} {α β : Type} {R : K → α → β → Prop} {κ : K} {s : Sem α} {s' : Sem β} (hs : SR P R κ s s') :
    ∀ (h : AH) (a : α) (h2 : AH), arun P s h = some (a, h2) → WF h → ∀ (G : Nat → Option AObj) (w : World), Rel P κ G w → Agree h h2 G → Fresh h h2 κ G →
      ∃ κ' b w', s'.run P w = .ok b w' ∧ R κ' a b ∧ Rel P κ' (merge h h2 G) w' ∧ KX h h2 κ κ' w w' := by
  induction hs with
  | @pure κ a b hR =>
    intro h a0 h2 e wf G w hrel hag hfr
    simp only [arun, Option.some.injEq, Prod.mk.injEq] at e
    obtain ⟨rfl, rfl⟩ := e
    exact ⟨κ, b, w, rfl, hR, by rw [merge_self wf hag]; exact hrel, KX.refl _ _ _⟩
  | @load κ m a a' k k' hA hk ih =>
    intro h x h2 e wf G w hrel hag hfr
    simp only [arun] at e
    obtain ⟨hsp, b, hb, rfl⟩ := hA
    rw [hsp] at e
    simp only [] at e
    split at e
    · rename_i c el lo hi ex st hg
      split at e
      · rename_i v hv
        have hone : oneCell v = true := by
          cases hv1 : oneCell v with
          | false => rw [hv1] at e; cases e
          | true => rfl
        rw [hone] at e
        simp only [cond_true] at e
        have hx := (arun_ext P _ _ _ _ e (wf_rdBit wf _)).1
        have ht : h2.touched a.block = true := touched_mono hx (by simp [AH.touched, rd_rdBit])
        have hGa : G a.block = some (.cells c el lo hi ex st) := by rw [hag a.block (wf.dom _ _ hg) ht]; exact hg
        obtain ⟨b', hb', hin⟩ := hrel.at_ a.block _ hGa
        obtain rfl : b' = b := Option.some.inj (hb'.symm.trans hb)
        obtain ⟨_, _, _, c', fz, ⟨e', hc, _⟩, _, hcells, _⟩ := hin
        rw [nth_eq] at hv
        obtain ⟨v', hv', hvr⟩ := hcells a.off v hv
        obtain ⟨κ', y, w', hrun, hR, hrel', hkx⟩ := ih v v' (hvr hone) _ _ _ e (wf_rdBit wf _) G w hrel hag hfr
        refine ⟨κ', y, w', ?_, hR, hrel', ?_⟩
        · have : w.cell? ⟨b'.blk, b'.sh + a.off, none⟩ = some v' := by simp [World.cell?, hc, hv']
          simp only [Sem.run, this]
          exact hrun
        · exact ⟨hkx.le, hkx.dom, hkx.new, hkx.keep, hkx.same⟩
      · cases e
    · cases e
  | @store κ m a a' v v' k k' hA hV hk ih =>
    intro h x h2 e wf G w hrel hag hfr
    simp only [arun] at e
    obtain ⟨hsp, b, hb, rfl⟩ := hA
    rw [hsp] at e
    simp only [] at e
    split at e
    · rename_i c el lo hi ex st hg
      cases hc : (oneCell v && small a.block && Nat.blt a.off c.length && !(Nat.blt hi lo || (Nat.ble lo a.off && Nat.blt a.off hi))) with
      | false => rw [hc] at e; cases e
      | true =>
        rw [hc] at e
        simp only [cond_true] at e
        simp only [Bool.and_eq_true, Bool.not_eq_true', Bool.and_eq_false_iff, Bool.or_eq_false_iff] at hc
        obtain ⟨⟨⟨hone, hsm⟩, hoff⟩, hlh0, hfrz⟩ := hc
        have hlh : lo ≤ hi := by
          rcases Nat.lt_or_ge hi lo with q | q
          · rw [← Nat.blt_eq] at q; rw [q] at hlh0; cases hlh0
          · exact q
        have hoff' : a.off < c.length := by simpa using hoff
        rw [upd_eq] at e
        have hlt := wf.dom _ _ hg
        have hwf1 := wf_put wf hsm hlt (.cells (c.set a.off v) el lo hi ex st)
        have hx1 := ext_put (h := h) hsm (.cells (c.set a.off v) el lo hi ex st)
        have hx := (arun_ext P _ _ _ _ e hwf1).1
        have ht : h2.touched a.block = true := touched_mono hx (by simp [AH.touched, wr_put])
        have hGa : G a.block = some (.cells c el lo hi ex st) := by rw [hag a.block hlt ht]; exact hg
        have hrel1 := hrel.store hGa hb hlh hoff' hV
        have hm := merge_put wf (hx1.trans hx) hag hsm (.cells (c.set a.off v) el lo hi ex st)
        rw [← hm] at hrel1
        have hkx1 : KX h (h.put a.block (.cells (c.set a.off v) el lo hi ex st)) κ κ w (w.setCell ⟨b.blk, b.sh + a.off, none⟩ v') := by
          refine ⟨K.le_refl κ, fun _ _ => rfl, fun _ _ e => .inl e, fun k hk hn => heap_setCell _ _ _ _ ?_, ⟨rfl, rfl, rfl, by rw [World.size_setCell]; exact Nat.le_refl _⟩⟩
          intro heq
          have := hn a.block b hb heq.symm
          rw [wr_put] at this
          simp at this
        obtain ⟨κ', y, w', hrun, hR, hrel', hkx⟩ := ih _ _ _ e hwf1 _ _ hrel1 (hag.right hx1) (hfr.right hx1 hkx1 (fun id _ hw => hwf1.wr id hw))
        refine ⟨κ', y, w', ?_, hR, by rw [merge_merge hx1 hx] at hrel'; exact hrel', hkx1.trans hx1 hx hkx⟩
        obtain ⟨b', hb', ho1, ho2, ho3, c', fz, ⟨e', hc', _⟩, hsz, hcells, hfz0⟩ := hrel.at_ a.block _ hGa
        have hfz := hfz0 hlh
        obtain rfl : b' = b := Option.some.inj (hb'.symm.trans hb)
        obtain ⟨u, hu⟩ : ∃ u, c[a.off]? = some u := ⟨_, List.getElem?_eq_getElem hoff'⟩
        obtain ⟨u', hu', _⟩ := hcells a.off u hu
        have h1 : w.cell? ⟨b'.blk, b'.sh + a.off, none⟩ = some u' := by simp [World.cell?, hc', hu']
        have h2' : w.frozen? ⟨b'.blk, b'.sh + a.off, none⟩ = false := by
          simp only [World.frozen?, hc']
          rw [Bool.and_eq_false_iff]
          simp only [decide_eq_false_iff_not]
          rcases hfz with hfz | ⟨_, hfz⟩ | ⟨_, _, hf1, hf2⟩
          · omega
          · rw [hfz]; left; simp only; omega
          · rcases hfrz with hfrz | hfrz
            · have : ¬ lo ≤ a.off := by rw [← Nat.ble_eq]; simp [hfrz]
              omega
            · have : ¬ a.off < hi := by rw [← Nat.blt_eq]; simp [hfrz]
              omega
        have hno := oneCell_of hV hone
        cases v' <;> first
          | (exact absurd rfl (hno _).1)
          | (exact absurd rfl (hno _).2)
          | (simp only [Sem.run, h1, h2', Bool.false_eq_true, if_false]; exact hrun)
    · cases e
  | @new κ o o' k k' hO hk ih =>
    intro h x h2 e wf G w hrel hag hfr
    simp only [arun] at e
    split at e
    · rename_i ao hao
      cases hs : small h.n with
      | false => rw [hs] at e; cases e
      | true =>
        rw [hs] at e
        simp only [cond_true] at e
        have hwf1 := wf_push wf hs ao
        have hx1 := ext_push wf hs ao
        have hx := (arun_ext P _ _ _ _ e hwf1).1
        have hn0 := hfr h.n (Nat.le_refl _) (Nat.lt_of_lt_of_le (by show h.n < h.n + 1; omega) hx.n)
        have main : ∀ (b : BI), b.blk = w.heap.size → b.sh = 0 →
            ObjIn P (fun j => if j = h.n then some b else κ j) b { w with heap := w.heap.push o' } ao →
            ∃ κ' y w', (Sem.new o' k').run P w = .ok y w' ∧ R κ' x y ∧ Rel P κ' (merge h h2 G) w' ∧ KX h h2 κ κ' w w' := by
          intro b hb1 hb2 hin
          have hle : K.le κ (fun j => if j = h.n then some b else κ j) := fun j y hy => by
            by_cases hj : j = h.n
            · subst hj; rw [hn0.2] at hy; cases hy
            · simp only [hj, if_false]; exact hy
          have hrel1 := hrel.alloc hn0.1 hn0.2 hb1 hin
          rw [← merge_push wf (hx1.trans hx) hag hs ao] at hrel1
          have hkx1 : KX h (h.push ao) κ (fun j => if j = h.n then some b else κ j) w { w with heap := w.heap.push o' } := by
            refine ⟨hle, fun id hid => if_neg ?_, fun id y hy => ?_, fun k hk _ => heap_push_old hk, ⟨rfl, rfl, rfl, by simp⟩⟩
            · intro heq; exact hid ⟨by omega, by show id < h.n + 1; omega⟩
            · by_cases hj : id = h.n
              · simp only [hj, if_true, Option.some.injEq] at hy; subst hy; exact .inr (.inl (by omega))
              · simp only [hj, if_false] at hy; exact .inl hy
          obtain ⟨κ', y, w', hrun, hR, hrel', hkx⟩ := ih (fun j => if j = h.n then some b else κ j) h.n b hle (by simp) hb2 _ _ _ e hwf1 _ _ hrel1 (hag.right hx1)
            (hfr.right hx1 hkx1 (fun id _ hw => hwf1.wr id hw))
          refine ⟨κ', y, w', ?_, hR, by rw [merge_merge hx1 hx] at hrel'; exact hrel', hkx1.trans hx1 hx hkx⟩
          simp only [Sem.run]
          rw [← hb1]
          exact hrun
        cases hO with
        | cells el hl =>
          rename_i l l'
          simp only [absNew, Option.some.injEq] at hao
          subst hao
          refine main ⟨w.heap.size, 0, l.length, true, 0⟩ rfl rfl ⟨rfl, by simp, by simp, _, _, ⟨_, heap_push_new w _, fun _ => rfl⟩, ?_, fun i v hv => ?_, fun _ => .inl rfl⟩
          · simpa using hl.length
          · have hle : K.le κ (fun j => if j = h.n then some ⟨w.heap.size, 0, l.length, true, 0⟩ else κ j) := fun j y hy => by
              by_cases hj : j = h.n
              · subst hj; rw [hn0.2] at hy; cases hy
              · simp only [hj, if_false]; exact hy
            rcases hl.get i with ⟨h1, _⟩ | ⟨u, u', h1, h2, h3⟩
            · rw [h1] at hv; cases hv
            · rw [h1] at hv; cases hv
              exact ⟨u', by simpa using h2, fun _ => h3.mono hle⟩
        | obj hob =>
          have hle : ∀ b, K.le κ (fun j => if j = h.n then some b else κ j) := fun b j y hy => by
            by_cases hj : j = h.n
            · subst hj; rw [hn0.2] at hy; cases hy
            · simp only [hj, if_false]; exact hy
          have habs : ao = .obj o := by
            cases hob <;> exact absObj_eq hao
          subst habs
          exact main ⟨w.heap.size, 0, 0, true, 0⟩ rfl rfl ⟨rfl, o', heap_push_new w _, hob.mono (hle _)⟩
    · cases e
  | @shape κ r b k k' hb hk ih =>
    intro h x h2 e wf G w hrel hag hfr
    simp only [arun] at e
    have go : ∀ o s, h.get r = some o → arun P (k s) (h.rdBit r) = some (x, h2) → (ObjIn P κ b w o → w.shape? b.blk = s) →
        ∃ κ' y w', (Sem.shape b.blk k').run P w = .ok y w' ∧ R κ' x y ∧ Rel P κ' (merge h h2 G) w' ∧ KX h h2 κ κ' w w' := by
      intro o s hg e hsh
      have hx := (arun_ext P _ _ _ _ e (wf_rdBit wf _)).1
      have ht : h2.touched r = true := touched_mono hx (by simp [AH.touched, rd_rdBit])
      have hGa : G r = some o := by rw [hag r (wf.dom _ _ hg) ht]; exact hg
      obtain ⟨b', hb', hin⟩ := hrel.at_ r _ hGa
      obtain rfl : b' = b := Option.some.inj (hb'.symm.trans hb)
      obtain ⟨κ', y, w', hrun, hR, hrel', hkx⟩ := ih s _ _ _ e (wf_rdBit wf _) G w hrel hag hfr
      refine ⟨κ', y, w', ?_, hR, hrel', ⟨hkx.le, hkx.dom, hkx.new, hkx.keep, hkx.same⟩⟩
      simp only [Sem.run, hsh hin]
      exact hrun
    split at e
    · rename_i c el lo hi st hg
      cases hlh : Nat.ble lo hi with
      | false => rw [hlh] at e; cases e
      | true =>
      rw [hlh] at e
      refine go _ _ hg e fun hin => ?_
      obtain ⟨_, h2, _, c', fz, ⟨e', hc, het⟩, hsz, _⟩ := hin
      rw [het (by rwa [Nat.ble_eq] at hlh)] at hc
      simp only [if_true] at h2
      simp [World.shape?, hc, hsz, h2.2]
    · rename_i o hg
      refine go _ _ hg e fun hin => ?_
      obtain ⟨_, o', ho', hr'⟩ := hin
      have := hr'.notCells.1
      cases o' <;> first | (simp [World.shape?, ho']; done) | exact absurd rfl (this _ _ _)
    · cases e
  | @getObj κ r b k k' hb hk ih =>
    intro h x h2 e wf G w hrel hag hfr
    simp only [arun] at e
    split at e
    · rename_i o hg
      have hx := (arun_ext P _ _ _ _ e (wf_rdBit wf _)).1
      have ht : h2.touched r = true := touched_mono hx (by simp [AH.touched, rd_rdBit])
      have hGa : G r = some (.obj o) := by rw [hag r (wf.dom _ _ hg) ht]; exact hg
      obtain ⟨b', hb', _, o', ho', hr'⟩ := hrel.at_ r _ hGa
      obtain rfl : b' = b := Option.some.inj (hb'.symm.trans hb)
      obtain ⟨κ', y, w', hrun, hR, hrel', hkx⟩ := ih o o' hr' _ _ _ e (wf_rdBit wf _) G w hrel hag hfr
      refine ⟨κ', y, w', ?_, hR, hrel', ⟨hkx.le, hkx.dom, hkx.new, hkx.keep, hkx.same⟩⟩
      have := hr'.notCells.1
      cases o' <;> first | (simp only [Sem.run, ho']; exact hrun) | exact absurd rfl (this _ _ _)
    · cases e
  | @setObj κ r b o o' k k' hb hO hk ih =>
    intro h x h2 e wf G w hrel hag hfr
    simp only [arun] at e
    split at e
    · rename_i y ao hg hao
      cases hs : small r with
      | false => rw [hs] at e; cases e
      | true =>
        rw [hs] at e
        simp only [cond_true] at e
        obtain rfl := absObj_eq hao
        have hlt := wf.dom _ _ hg
        have hwf1 := wf_put wf hs hlt (.obj o)
        have hx1 := ext_put (h := h) hs (.obj o)
        have hx := (arun_ext P _ _ _ _ e hwf1).1
        have ht : h2.touched r = true := touched_mono hx (by simp [AH.touched, wr_put])
        have hGa : G r = some (.obj y) := by rw [hag r hlt ht]; exact hg
        have hrel1 := hrel.setObj hGa hb hO
        rw [← merge_put wf (hx1.trans hx) hag hs (.obj o)] at hrel1
        have hkx1 : KX h (h.put r (.obj o)) κ κ w { w with heap := w.heap.setIfInBounds b.blk o' } := by
          refine ⟨K.le_refl κ, fun _ _ => rfl, fun _ _ e => .inl e, fun k hk hn => ?_, ⟨rfl, rfl, rfl, by simp⟩⟩
          show (w.heap.setIfInBounds b.blk o')[k]? = _
          rw [Array.getElem?_setIfInBounds, if_neg]
          intro heq
          have := hn r b hb heq
          rw [wr_put] at this
          simp at this
        obtain ⟨κ', z, w', hrun, hR, hrel', hkx⟩ := ih _ _ _ e hwf1 _ _ hrel1 (hag.right hx1) (hfr.right hx1 hkx1 (fun id _ hw => hwf1.wr id hw))
        refine ⟨κ', z, w', ?_, hR, by rw [merge_merge hx1 hx] at hrel'; exact hrel', hkx1.trans hx1 hx hkx⟩
        obtain ⟨b', hb', _, y', hy', hr'⟩ := hrel.at_ r _ hGa
        obtain rfl : b' = b := Option.some.inj (hb'.symm.trans hb)
        have := hr'.notCells.1
        cases y' <;> first | (simp only [Sem.run, hy']; exact hrun) | exact absurd rfl (this _ _ _)
    · cases e
  | @choose κ q k k' hk ih =>
    intro h x h2 e wf G w hrel hag hfr
    simp only [arun] at e
    cases hq : q.forced with
    | false => rw [hq] at e; cases e
    | true =>
      rw [hq] at e
      obtain ⟨κ', z, w', hrun, rest⟩ := ih hq _ _ _ e wf G w hrel hag hfr
      exact ⟨κ', z, w', by simp only [Sem.run, hq, if_true]; exact hrun, rest⟩
  | @program κ k k' hk ih =>
    intro h x h2 e wf G w hrel hag hfr
    obtain ⟨κ', z, w', hrun, rest⟩ := ih _ _ _ e wf G w hrel hag hfr
    exact ⟨κ', z, w', by simp only [Sem.run]; exact hrun, rest⟩
  | @mark κ m k k' hk ih =>
    intro h x h2 e wf G w hrel hag hfr
    obtain ⟨κ', z, w', hrun, rest⟩ := ih _ _ _ e wf G w hrel hag hfr
    exact ⟨κ', z, w', by simp only [Sem.run]; exact hrun, rest⟩
  | triv hn =>
    intro h x h2 e
    rw [hn] at e
    cases e

theorem SR.bind {P : Program} {α α' β β' : Type} {R : K → α → α' → Prop} {R' : K → β → β' → Prop} {κ : K} {s : Sem α} {s' : Sem α'} {f : α → Sem β} {f' : α' → Sem β'}
    (hs : SR P R κ s s') (hf : ∀ κ' a a', κ.le κ' → R κ' a a' → SR P R' κ' (f a) (f' a')) : SR P R' κ (s.bind f) (s'.bind f') := by
  induction hs with
  | @pure κ a b hR => exact hf κ a b (K.le_refl κ) hR
  | load hA hk ih => exact .load hA fun v v' hv => ih v v' hv hf
  | store hA hV hk ih => exact .store hA hV (ih hf)
  | new hO hk ih => exact .new hO fun κ' r b hle e hsh => ih κ' r b hle e hsh fun κ'' a a' h h' => hf κ'' a a' (K.le_trans hle h) h'
  | shape hb hk ih => exact .shape hb fun s => ih s hf
  | getObj hb hk ih => exact .getObj hb fun o o' ho => ih o o' ho hf
  | setObj hb hO hk ih => exact .setObj hb hO (ih hf)
  | choose hk ih => exact .choose fun hq => ih hq hf
  | program hk ih => exact .program (ih hf)
  | mark hk ih => exact .mark (ih hf)
  | triv hn => exact .triv fun h => by rw [arun_bind, hn]; rfl
theorem SR.bind' {P : Program} {α α' β β' : Type} {R : K → α → α' → Prop} {R' : K → β → β' → Prop} {κ : K} {s : Sem α} {s' : Sem α'} {f : α → Sem β} {f' : α' → Sem β'}
    (hs : SR P R κ s s') (hf : ∀ κ' a a', κ.le κ' → R κ' a a' → SR P R' κ' (f a) (f' a')) : SR P R' κ (s >>= f) (s' >>= f') := SR.bind hs hf
end Go.Ev
