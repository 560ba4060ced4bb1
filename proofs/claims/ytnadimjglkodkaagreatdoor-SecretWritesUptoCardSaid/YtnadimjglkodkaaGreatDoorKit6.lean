/- A certified evaluator of calls, run by the kernel, with its rules for what is not known: what it tells holds of every program. -/
import Derived.LaidSub
import Derived.WideShapes
import Derived.DataReads
import Derived.Test.YtnadimjglkodkaaGreatDoorKit4
import Derived.Test.YtnadimjglkodkaaGreatDoorKit5
namespace Go.Ev
open Go Go.RowKit
section
variable {P : Program}

/-! ### a listed variable -/

theorem laidVars_mem {w : World} : ∀ {l : List (String × DataW Unit)} {ps : List MemPlace}, DataW.LaidVars P w l ps → ∀ {n : String} {d : DataW Unit}, (n, d) ∈ l →
    ∃ g t cs fuel p, P.globalNamed n = some g ∧ (P.globals[g]?).map (·.type) = some t ∧ w.var? P n = some cs ∧ DataW.trod (fun _ => ()) P w 0 (fun _ => true) false fuel t cs.toList = some (d, p) ∧ ∀ x ∈ MemPlace.row ⟨g, 0, none⟩ cs.size, x ∈ ps
  | [], ps, _, n, d, hm => by cases hm
  | (n0, d0) :: r, ps, h, n, d, hm => by
    obtain ⟨g, t, cs, fuel, p, q, h1, h2, h3, h4, h5, h6⟩ := h
    rcases List.mem_cons.1 hm with e | hm
    · cases e
      refine ⟨g, t, cs, fuel, p, h1, h2, h3, h4, fun x hx => ?_⟩
      rw [h6]
      exact List.mem_append_left _ (List.mem_append_left _ hx)
    · obtain ⟨g', t', cs', fuel', p', a1, a2, a3, a4, a5⟩ := laidVars_mem h5 hm
      refine ⟨g', t', cs', fuel', p', a1, a2, a3, a4, fun x hx => ?_⟩
      rw [h6]
      exact List.mem_append_right _ (a5 x hx)
theorem var_heap {w : World} {n : String} {g : Nat} {cs : Array Value} (hg : P.globalNamed n = some g) (h : w.var? P n = some cs) : ∃ t fz, w.heap[g]? = some (.cells cs t fz) := by
  unfold World.var? at h
  rw [hg] at h
  simp only [Option.bind_some] at h
  split at h
  · rename_i c t fz hh; cases h; exact ⟨t, fz, hh⟩
  · cases h
theorem trod_lone {w : World} {fuel : Nat} {t : TypeId} {cs : List Value} {nm : String} {d : DataW Unit} {p : List MemPlace} {ms : Array (String × TypeId)} (ht : P.underlying t = some (.interface ms)) (h : DataW.trod (fun _ => ()) P w 0 (fun _ => true) false fuel t cs = some (.iface nm d, p)) :
    ∃ u v m, cs = [.iface u v] ∧ P.typeName? 3 u = some nm ∧ DataW.trod (fun _ => ()) P w 0 (fun _ => true) false m u v.cells.toList = some (d, p) := by
  cases fuel with
  | zero => simp [DataW.trod] at h
  | succ m =>
    unfold DataW.trod at h
    rw [ht] at h
    match cs, h with
    | [.iface u v], h =>
      simp only [] at h
      cases hn : P.typeName? 3 u with
      | none => rw [hn] at h; simp at h
      | some name =>
        rw [hn] at h
        simp only [Option.map_eq_some_iff] at h
        obtain ⟨x, hx, he⟩ := h
        simp only [Prod.mk.injEq, DataW.iface.injEq] at he
        obtain ⟨⟨rfl, rfl⟩, rfl⟩ := he
        exact ⟨u, v, m, rfl, hn, hx⟩
    | [.nilIface], h => simp at h
theorem trod_ptr {w : World} {fuel : Nat} {t e : TypeId} {cs : List Value} {d : DataW Unit} {p : List MemPlace} (ht : P.underlying t = some (.pointer e)) (hc : P.cellsOf e = 1) (h : DataW.trod (fun _ => ()) P w 0 (fun _ => true) false fuel t cs = some (.ptr d, p)) :
    ∃ a, cs = [.pointer (some a)] ∧ a.spot = none ∧ a.block < w.heap.size := by
  cases fuel with
  | zero => simp [DataW.trod] at h
  | succ m =>
    unfold DataW.trod at h
    rw [ht] at h
    match cs, h with
    | [.pointer none], h => simp at h
    | [.pointer (some a)], h =>
      simp only [Option.map_eq_some_iff] at h
      obtain ⟨x, hx, he⟩ := h
      rw [Option.bind_eq_some_iff] at hx
      obtain ⟨cs', hcs, _⟩ := hx
      rw [hc] at hcs
      unfold World.cells? at hcs
      rw [if_pos (Nat.zero_le _)] at hcs
      have h1 : ∃ v, w.cell? (a.add 0) = some v := by
        cases hv : w.cell? (a.add 0) with
        | some v => exact ⟨v, rfl⟩
        | none =>
          have : (List.range 1) = [0] := rfl
          rw [this] at hcs
          simp [hv] at hcs
      obtain ⟨v, hv⟩ := h1
      have hs := World.cell?_spot hv
      refine ⟨a, rfl, ?_, ?_⟩
      · obtain ⟨b, o, s⟩ := a
        cases s with
        | none => rfl
        | some s => simp [Addr.add] at hs
      · have hb : (a.add 0).block = a.block := by obtain ⟨b, o, s⟩ := a; cases s <;> rfl
        unfold World.cell? at hv
        rw [hb] at hv
        cases hh : w.heap[a.block]? with
        | none => rw [hh] at hv; cases hv
        | some o => exact (Array.getElem?_eq_some_iff.1 hh).1
/-- A sentinel: an interface that holds a pointer. -/
theorem sentinel_at {w : World} {l : List (String × DataW Unit)} (h : laidMet P l w) {n nm : String} {d : DataW Unit} (hm : (n, .iface nm (.ptr d)) ∈ l) {g : Nat} {T U E : TypeId} {ms : Array (String × TypeId)} (hg : P.globalNamed n = some g) (hT : (P.globals[g]?).map (·.type) = some T)
    (hi : P.underlying T = some (.interface ms)) (hU : ∀ u, P.typeName? 3 u = some nm → u = U) (hp : P.underlying U = some (.pointer E)) (hE : P.cellsOf E = 1) :
    ∃ a t fz, w.heap[g]? = some (.cells #[.iface U (.pointer (some a))] t fz) ∧ a.spot = none ∧ a.block < w.heap.size := by
  obtain ⟨ps, h1, _, h2⟩ := h
  obtain ⟨g', t', cs, fuel, p, a1, a2, a3, a4, a5⟩ := laidVars_mem h1 hm
  rw [hg] at a1
  cases a1
  rw [hT] at a2
  cases a2
  obtain ⟨tt, fz, hh⟩ := var_heap hg a3
  obtain ⟨u, v, m, b1, b2, b3⟩ := trod_lone hi a4
  obtain rfl := hU u b2
  obtain ⟨a, c1, c2, c3⟩ := trod_ptr hp hE b3
  have hcs : cs = #[.iface u v] := by rw [← Array.toList_inj, b1]
  subst hcs
  have hv : v = .pointer (some a) := by
    have hin : MemPlace.cell g 0 ∈ ps := a5 _ (by simp [MemPlace.row])
    have hok := (h2 g 0 hin).2 u v (by unfold World.cell?; rw [hh]; rfl)
    obtain ⟨x, rfl⟩ := WideShapes.okWide_pointer hp hok
    have : (Value.pointer x).cells.toList = [Value.pointer x] := rfl
    rw [this] at c1
    cases c1
    rfl
  subst hv
  exact ⟨a, tt, fz, hh, c2, c3⟩
/-- A type's descriptor in a variable. -/
theorem handle_at {w : World} {l : List (String × DataW Unit)} (h : laidMetH P l w) {n : String} {s : List UInt8} (hm : (n, .iface "internal/reflectlite.rtype" (.agg [.ptr (.lit (.string s))])) ∈ l) {g : Nat} {U ty : TypeId} (hg : P.globalNamed n = some g)
    (hU : (P.cutTypes.find? (·.1 == "internal/reflectlite.rtype")).map (·.2) = some U) (hty : ∀ t, t < P.types.size → P.rowNamed t s = true → t = ty) :
    ∃ t fz, w.heap[g]? = some (.cells #[.iface U (.agg #[typeHandle P ty])] t fz) := by
  have hm' : (n, (DataW.iface "internal/reflectlite.rtype" (.agg [.ptr (.lit (.string s))]) : DataW Unit)) ∈ l.filter fun x => x.2.handleName?.isSome := List.mem_filter.2 ⟨hm, rfl⟩
  have hall : handlesMet P (l.filter fun x => x.2.handleName?.isSome) w := by
    unfold laidMetH at h
    generalize (l.filter fun x => x.2.handleName?.isSome) = fl at h hm'
    cases fl with
    | nil => cases hm'
    | cons a as => exact h.2
  have := hall _ hm'
  simp only [DataW.funcsIn?] at this
  obtain ⟨name, u, t, h1, h2, h3, h4, h5⟩ := this
  have hs : name = s := by
    have : (DataW.iface "internal/reflectlite.rtype" (.agg [.ptr (.lit (.string s))]) : DataW Unit).handleName? = some s := rfl
    rw [this] at h1
    exact (Option.some.inj h1).symm
  subst hs
  rw [hU] at h2
  cases h2
  obtain rfl := hty t h3 h4
  exact var_heap hg h5
theorem laidMetH_plainPart {w : World} {l : List (String × DataW Unit)} (h : laidMetH P l w) : laidMet P (l.filter fun x => x.2.handleName?.isNone) w := (laidMetH_iff.1 h).1

/-! ### the start heap -/

noncomputable def sizeAt (w : World) (id : Nat) : Nat := match w.heap[id]? with
  | some (.cells c _ _) => c.size
  | _ => 0
/-- The variables and the types' descriptors stand for themselves; behind them some blocks that they point to. -/
noncomputable def globK (P : Program) (w : World) (ty : Nat → TypeId) (extra : List Addr) : K := fun id =>
  if id ≤ P.globals.size then some ⟨id, 0, sizeAt w id, false, P.cellsOf (ty id)⟩ else (extra[id - (P.globals.size + 1)]?).map fun a => ⟨a.block, a.off, 0, false, 0⟩
theorem globK_low {w : World} {ty : Nat → TypeId} {extra : List Addr} {id : Nat} (h : id ≤ P.globals.size) : globK P w ty extra id = some ⟨id, 0, sizeAt w id, false, P.cellsOf (ty id)⟩ := if_pos h
theorem globK_kg {w : World} {ty : Nat → TypeId} {extra : List Addr} : KG (P.globals.size + 1) (globK P w ty extra) := fun g hg => ⟨_, globK_low (by omega), rfl, rfl⟩
theorem globK_old {w : World} {ty : Nat → TypeId} {extra : List Addr} (hsz : P.globals.size < w.heap.size) (hex : ∀ a ∈ extra, a.block < w.heap.size) : ∀ id b, globK P w ty extra id = some b → b.blk < w.heap.size ∧ id < P.globals.size + 1 + extra.length := fun id b h => by
  unfold globK at h
  split at h
  · cases h
    exact ⟨by show id < _; omega, by omega⟩
  · rw [Option.map_eq_some_iff] at h
    obtain ⟨a, ha, rfl⟩ := h
    have := (List.getElem?_eq_some_iff.1 ha).1
    exact ⟨hex a (List.mem_of_getElem? ha), by omega⟩
theorem Start.globs {w : World} {ty : Nat → TypeId} {extra : List Addr} (hsz : P.globals.size < w.heap.size) (hex : ∀ a ∈ extra, a.block < w.heap.size) :
    Start P (P.globals.size + 1) (globK P w ty extra) ⟨.nil, P.globals.size + 1 + extra.length, 0, 0⟩ w ∧ ∀ id' o', (⟨.nil, P.globals.size + 1 + extra.length, 0, 0⟩ : AH).get id' = some o' → o'.view = true :=
  ⟨Start.empty globK_kg (globK_old hsz hex), fun id' o' h => by cases h⟩
/-- A variable of one cell, told. -/
theorem Start.glob {h : AH} {w : World} {ty : Nat → TypeId} {extra : List Addr} (hs : Start P (P.globals.size + 1) (globK P w ty extra) h w) (hv : ∀ id' o', h.get id' = some o' → o'.view = true) {g : Nat} (hg : g ≤ P.globals.size) (hsm : small g = true) {e : TypeId} (hty : ty g = e) {cs : List Value} {cs' : Array Value} {t : TypeId} {fz : Nat × Nat}
    (hh : w.heap[g]? = some (.cells cs' t fz)) (hvl : VL (globK P w ty extra) cs cs'.toList) :
    Start P (P.globals.size + 1) (globK P w ty extra) { h with t := h.t.set 24 g (some (.cells cs e 1 0 false false)) } w ∧ ∀ id' o', ({ h with t := h.t.set 24 g (some (.cells cs e 1 0 false false)) } : AH).get id' = some o' → o'.view = true := by
  have hlen := hvl.length
  have hsz : sizeAt w g = cs'.size := by unfold sizeAt; rw [hh]
  refine Start.view hs hsm (globK_low hg) rfl (by rw [← hty]) (by rw [hsz]) (by show 0 + cs.length ≤ sizeAt w g; rw [hsz]; simp at hlen; omega) hh (fun i v hi => ?_) hv
  rcases hvl.get i with ⟨a1, _⟩ | ⟨u, u', a1, a2, a3⟩
  · rw [a1] at hi; cases hi
  · rw [a1] at hi; cases hi
    exact ⟨u', by simpa using a2, a3⟩
end
end Go.Ev
