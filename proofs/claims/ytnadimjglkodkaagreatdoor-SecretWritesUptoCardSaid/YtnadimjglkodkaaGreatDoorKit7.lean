/- A certified evaluator of calls, run by the kernel, with its rules for what is not known: what it tells holds of every program. -/
import Derived.Test.YtnadimjglkodkaaGreatDoorKit4
namespace Go.Ev
open Go Go.RowKit
section
variable {P : Program} {gl : Nat}

theorem fastBind {α β : Type} (s : Sem α) (f : α → Sem β) (h : AH) : arun P (s >>= f) h = (arun P s h).bind fun x => arun P (f x.1) x.2 := arun_bind P s f h
theorem fastPure {α : Type} (a : α) (h : AH) : arun P (Pure.pure a : Sem α) h = some (a, h) := rfl
theorem fastUnd {t : TypeId} {d : TypeDesc} (hd : P.underlying t = some d) (h : AH) : arun P (underlying t) h = some (d, h) := by
  unfold underlying
  rw [fastBind]
  show (arun P (match P.underlying t with | some d => pure d | none => stuck "no such type") h) = _
  rw [hd]
  rfl
theorem fastSize {t : TypeId} {i : TypeInfo} (hi : P.info? t = some i) (h : AH) : arun P (sizeOf t) h = some (i.size, h) := by
  unfold sizeOf typeInfo
  rw [fastBind, fastBind]
  show ((arun P (match P.info? t with | some i => pure i | none => stuck "no such type") h).bind fun x => arun P (pure x.1.size) x.2) = _
  rw [hi]
  rfl
def takeW (c : List Value) (o k : Nat) : List Value := (c.drop o).take k
def splice (c : List Value) (o : Nat) (l : List Value) : List Value := c.take o ++ (l ++ c.drop (o + l.length))
theorem fastTwice (h : AH) (b : Nat) : (h.rdBit b).rdBit b = h.rdBit b := by
  unfold AH.rdBit
  simp only [Nat.or_assoc, Nat.or_self]
theorem T.set_set {α : Type} (f : Nat) : ∀ (t : T α) (k : Nat) (x y : Option α), T.set f (T.set f t k x) k y = T.set f t k y := by
  induction f with
  | zero => intro t k x y; rfl
  | succ f ih =>
    intro t k x y
    cases t with
    | nil =>
      simp only [T.set, beq_eq]
      by_cases hk : k = 0
      · simp [hk, T.set]
      · simp only [hk, decide_false, cond_false]
        by_cases h2 : k % 2 = 1
        · simp only [h2, decide_true, cond_true, T.set, beq_eq, hk, decide_false, cond_false, ih]
        · simp only [h2, decide_false, cond_false, T.set, beq_eq, hk, ih]
    | node v l r =>
      simp only [T.set, beq_eq]
      by_cases hk : k = 0
      · simp [hk, T.set]
      · simp only [hk, decide_false, cond_false]
        by_cases h2 : k % 2 = 1
        · simp only [h2, decide_true, cond_true, T.set, beq_eq, hk, decide_false, cond_false, ih]
        · simp only [h2, decide_false, cond_false, T.set, beq_eq, hk, ih]
theorem put_put (h : AH) (b : Nat) (o o' : AObj) : (h.put b o).put b o' = h.put b o' := by
  unfold AH.put
  simp only [T.set_set, Nat.or_assoc, Nat.or_self]
theorem fastAdd {a : Addr} (hs : a.spot = none) (i : Nat) : a.add i = ⟨a.block, a.off + i, none⟩ := addr_add_off a i hs
theorem fast_cells {c : List Value} {e : TypeId} {lo hi : Nat} {ex st : Bool} {a : Addr} (hs : a.spot = none) : ∀ (k i : Nat) (acc : Array Value) (h : AH), h.get a.block = some (.cells c e lo hi ex st) → a.off + i + k ≤ c.length →
    (takeW c (a.off + i) k).all oneCell = true → arun P (loadCellsFrom a i k acc) h = some (⟨acc.toList ++ takeW c (a.off + i) k⟩, if k = 0 then h else h.rdBit a.block)
  | 0, i, acc, h, _, _, _ => by
    simp [loadCellsFrom, takeW, pure, arun]
  | k + 1, i, acc, h, hg, hl, ho => by
    have hlt : a.off + i < c.length := by omega
    have hd : takeW c (a.off + i) (k + 1) = c[a.off + i] :: takeW c (a.off + (i + 1)) k := by
      unfold takeW
      rw [List.drop_eq_getElem_cons hlt, List.take_succ_cons]
      rfl
    rw [hd] at ho ⊢
    simp only [List.all_cons, Bool.and_eq_true] at ho
    have h1 : arun P (load (a.add i)) h = some (c[a.off + i], h.rdBit a.block) := by
      rw [fastAdd hs]
      simp only [load, arun, hg, nth_eq, List.getElem?_eq_getElem hlt, ho.1, cond_true]
    have hg' : (h.rdBit a.block).get a.block = some (.cells c e lo hi ex st) := hg
    have ih := fast_cells hs k (i + 1) (acc.push c[a.off + i]) (h.rdBit a.block) hg' (by omega) ho.2
    have e' : loadCellsFrom a i (k + 1) acc = (load (a.add i)).bind fun v => loadCellsFrom a (i + 1) k (acc.push v) := rfl
    rw [e', arun_bind, h1]
    simp only [Option.bind_some]
    rw [ih]
    simp only [Nat.add_one_ne_zero, if_false, Array.toList_push, List.append_assoc, List.singleton_append]
    by_cases hk : k = 0
    · subst hk; simp
    · simp only [hk, if_false, fastTwice]
theorem fast_store {e : TypeId} {ex st : Bool} {a : Addr} (hs : a.spot = none) (hsm : small a.block = true) : ∀ (l : List Value) (i : Nat) (h : AH) (c : List Value), h.get a.block = some (.cells c e 0 0 ex st) → a.off + i + l.length ≤ c.length →
    l.all oneCell = true → l ≠ [] → arun P (storeCells a l i) h = some ((), h.put a.block (.cells (splice c (a.off + i) l) e 0 0 ex st))
  | [], _, _, _, _, _, _, hn => absurd rfl hn
  | v :: l, i, h, c, hg, hl, ho, _ => by
    simp only [List.length_cons] at hl
    have hlt : a.off + i < c.length := by omega
    simp only [List.all_cons, Bool.and_eq_true] at ho
    have h1 : arun P (store (a.add i) v) h = some ((), h.put a.block (.cells (c.set (a.off + i) v) e 0 0 ex st)) := by
      rw [fastAdd hs]
      have hb : Nat.blt (a.off + i) c.length = true := by rw [Nat.blt_eq]; exact hlt
      have hb2 : Nat.blt (a.off + i) 0 = false := by
        cases hq : Nat.blt (a.off + i) 0 with
        | false => rfl
        | true => rw [Nat.blt_eq] at hq; omega
      have hb3 : Nat.blt 0 0 = false := rfl
      simp only [store, arun, hg, ho.1, hsm, hb, hb2, hb3, upd_eq, Bool.and_false, Bool.or_false, Bool.not_false, Bool.and_self, cond_true]
    have e' : storeCells a (v :: l) i = (store (a.add i) v).bind fun _ => storeCells a l (i + 1) := rfl
    rw [e', arun_bind, h1]
    simp only [Option.bind_some]
    have hsp : splice c (a.off + i) (v :: l) = splice (c.set (a.off + i) v) (a.off + (i + 1)) l := by
      unfold splice
      have ht : (c.set (a.off + i) v).take (a.off + (i + 1)) = c.take (a.off + i) ++ [v] := by
        rw [show a.off + (i + 1) = a.off + i + 1 by omega, List.take_add_one]
        rw [List.take_set_of_le (Nat.le_refl _)]
        simp [hlt]
      rw [ht]
      have hdr : (c.set (a.off + i) v).drop (a.off + (i + 1) + l.length) = c.drop (a.off + i + (v :: l).length) := by
        rw [List.drop_set_of_lt (by omega)]
        congr 1
        simp only [List.length_cons]; omega
      rw [hdr]
      simp
    cases l with
    | nil =>
      simp only [storeCells]
      have : splice (c.set (a.off + i) v) (a.off + (i + 1)) [] = c.set (a.off + i) v := by simp [splice]
      rw [hsp, this]
      rfl
    | cons u l =>
      have ih := fast_store (e := e) (ex := ex) (st := st) hs hsm (u :: l) (i + 1) (h.put a.block (.cells (c.set (a.off + i) v) e 0 0 ex st)) (c.set (a.off + i) v)
        (by rw [get_put hsm]; simp) (by simp only [List.length_set]; omega) ho.2 (by simp)
      rw [ih, put_put, hsp]

/-- How wide a type of aggregates is. -/
def aggW (P : Program) (t : TypeId) : Option Nat := match P.underlying t, P.info? t with
  | some (.struct _), some i => some i.size
  | some (.array _ _), some i => some i.size
  | _, _ => none
theorem fast_loadVar {t : TypeId} {n : Nat} (ht : aggW P t = some n) (a : Addr) (h : AH) : arun P (loadVar t a) h = (arun P (loadCells a n) h).bind fun x => some (.agg x.1, x.2) := by
  unfold aggW at ht
  split at ht
  · rename_i fs i hd hi
    cases ht
    unfold loadVar isAgg
    simp only [fastBind, fastPure, fastUnd hd, Option.bind_some, if_true, fastSize hi]
  · rename_i _ _ i hd hi
    cases ht
    unfold loadVar isAgg
    simp only [fastBind, fastPure, fastUnd hd, Option.bind_some, if_true, fastSize hi]
  · cases ht
def fastLd (P : Program) (t : TypeId) (x : Value) (h : AH) : Option (Value × AH) := match x with
  | .pointer (some a) => match a.spot, aggW P t, h.get a.block with
    | none, some n, some (.cells c _ _ _ _ _) => cond (Nat.ble 16 n && Nat.ble (a.off + n) c.length && (takeW c a.off n).all oneCell) (some (.agg ⟨takeW c a.off n⟩, h.rdBit a.block)) none
    | _, _, _ => none
  | _ => none
def fastSt (P : Program) (t : TypeId) (x y : Value) (h : AH) : Option (Value × AH) := match x, y with
  | .pointer (some a), .agg ⟨l⟩ => match a.spot, P.info? t, h.get a.block with
    | none, some i, some (.cells c e 0 0 ex st) => cond (Nat.ble 16 l.length && Nat.beq i.size l.length && Nat.ble (a.off + l.length) c.length && l.all oneCell && small a.block)
      (some (undef, h.put a.block (.cells (splice c a.off l) e 0 0 ex st))) none
    | _, _, _ => none
  | _, _ => none
def fastA (P : Program) : OpEv := fun f o h => match o.op with
  | .load t x => fastLd P t (f.eval x) h
  | .store t x y => fastSt P t (f.eval x) (f.eval y) h
  | _ => none
theorem flatRoute_ptr {ρ : Operand → Value} {o : Oper} {x : Operand} (hx : x ∈ o.op.operands) {a : Addr} (h : ρ x = .pointer (some a)) : flatRoute P ρ o = none := by
  unfold flatRoute
  have : (o.op.operands.toList.all fun x => flatV (ρ x)) = false := by
    cases hq : (o.op.operands.toList.all fun x => flatV (ρ x)) with
    | false => rfl
    | true =>
      have := List.all_eq_true.1 hq x (by simpa using hx)
      rw [h] at this
      cases this
  rw [this]
  rfl
theorem fastA_plain {f : Fr} {o : Oper} {h : AH} {r : Value × AH} (e : fastA P f o h = some r) : plainA P f o h = some r ∧ ∀ cs b, o.op ≠ .select cs b := by
  unfold fastA at e
  split at e
  · rename_i t x ho
    refine ⟨?_, by rw [ho]; exact fun _ _ h => by cases h⟩
    unfold fastLd at e
    split at e
    · rename_i a hx
      split at e
      · rename_i n c _ _ _ _ _ hsp hn hg
        cases hs : (Nat.ble 16 n && Nat.ble (a.off + n) c.length && (takeW c a.off n).all oneCell) with
        | false => rw [hs] at e; cases e
        | true =>
          rw [hs] at e
          cases e
          simp only [Bool.and_eq_true, Nat.ble_eq] at hs
          unfold plainA
          rw [flatRoute_ptr (x := x) (by rw [ho]; simp [Op.operands]) hx]
          simp only []
          have hguard : guardA P f.eval h o.op = some h := by rw [ho]; rfl
          rw [hguard]
          simp only []
          have hload := fast_cells (P := P) hsp n 0 #[] h hg (by omega) hs.2
          have : arun P (execOp f.eval o) h = some (.value (.agg ⟨takeW c a.off n⟩), h.rdBit a.block) := by
            unfold execOp
            rw [ho]
            simp only []
            unfold Instr.loadAt
            rw [hx]
            simp only [Instr.sureAddr, fastBind, fastPure, Option.bind_some, fast_loadVar hn]
            unfold loadCells
            rw [hload, if_neg (by omega)]
            simp
          rw [this]
      · cases e
    · cases e
  · rename_i t x y ho
    refine ⟨?_, by rw [ho]; exact fun _ _ h => by cases h⟩
    unfold fastSt at e
    split at e
    · rename_i a l hx hy
      split at e
      · rename_i i c el ex st hsp hi hg
        cases hs : (Nat.ble 16 l.length && Nat.beq i.size l.length && Nat.ble (a.off + l.length) c.length && l.all oneCell && small a.block) with
        | false => rw [hs] at e; cases e
        | true =>
          rw [hs] at e
          cases e
          simp only [Bool.and_eq_true, Nat.ble_eq] at hs
          obtain ⟨⟨⟨⟨h16, hsz⟩, hlen⟩, hone⟩, hsm⟩ := hs
          have hsz' : i.size = l.length := by rw [beq_eq, decide_eq_true_eq] at hsz; exact hsz
          unfold plainA
          rw [flatRoute_ptr (x := x) (by rw [ho]; simp [Op.operands]) hx]
          simp only []
          have hguard : guardA P f.eval h o.op = some h := by rw [ho]; rfl
          rw [hguard]
          simp only []
          have hst := fast_store (P := P) hsp hsm l 0 h c hg (by omega) hone (by intro hq; rw [hq] at h16; simp at h16)
          have : arun P (execOp f.eval o) h = some (.skip, h.put a.block (.cells (splice c a.off l) el 0 0 ex st)) := by
            unfold execOp
            rw [ho]
            simp only []
            unfold Instr.storeAt storeVar
            rw [hx, hy]
            simp only [Instr.sureAddr, fastBind, fastPure, Option.bind_some, fastSize hi, Value.cells]
            rw [hsz']
            simp only [List.size_toArray, ne_eq, not_true, if_false]
            rw [hst]
            simp
          rw [this]
      · cases e
    · cases e
  · cases e
theorem fast_sound (hz : ZerosFlat P) : OpSound P gl (checked gl (fastA P)) := by
  intro f o h v h' e wf
  unfold checked at e
  cases hall : o.op.operands.toList.all (operandOk gl) with
  | false => rw [hall] at e; cases e
  | true =>
    rw [hall] at e
    obtain ⟨e', hsel⟩ := fastA_plain e
    have hat : OpAt P gl f o h v h' := plainA_sound hz e' hsel wf
    refine ⟨hat.1, fun κ G a w K' Q hg hrel hag hfs ht hk => hat.2 κ G a w K' Q hg hrel hag hfs (fun x hx => ?_) hk⟩
    exact eval_rel hg (fun t hxt => ht t (hxt ▸ hx)) (List.all_eq_true.1 hall x (by simpa using hx))
theorem fastLd_load {t : TypeId} {x : Value} {h : AH} {r : Value × AH} (e : fastLd P t x h = some r) : ∃ a, x = .pointer (some a) ∧ arun P (loadVar t a) h = some r := by
  unfold fastLd at e
  split at e
  · rename_i a
    split at e
    · rename_i n c _ _ _ _ _ hsp hn hg
      cases hs : (Nat.ble 16 n && Nat.ble (a.off + n) c.length && (takeW c a.off n).all oneCell) with
      | false => rw [hs] at e; cases e
      | true =>
        rw [hs] at e
        cases e
        simp only [Bool.and_eq_true, Nat.ble_eq] at hs
        refine ⟨a, rfl, ?_⟩
        have hload := fast_cells (P := P) hsp n 0 #[] h hg (by omega) hs.2
        rw [fast_loadVar hn]
        unfold loadCells
        rw [hload, if_neg (by omega)]
        simp
    · cases e
  · cases e

/-! ### results -/

def fastOne (P : Program) (get : Nat → Value) (h : AH) : ResultVar → Option (Value × AH)
  | .tmp t => some (get t, h)
  | .cell a t => match fastLd P t (get a) h with
    | some r => some r
    | none => arun P (resOf get (.cell a t)) h
def fastAll (P : Program) (get : Nat → Value) : List ResultVar → AH → Option (List Value × AH)
  | [], h => some ([], h)
  | x :: l, h => match fastOne P get h x with
    | none => none
    | some (v, h1) => match fastAll P get l h1 with
      | none => none
      | some (vs, h2) => some (v :: vs, h2)
theorem fastOne_eq (get : Nat → Value) (h : AH) (x : ResultVar) : fastOne P get h x = arun P (resOf get x) h := by
  cases x with
  | tmp t => rfl
  | cell c t =>
    unfold fastOne
    simp only []
    split
    · rename_i r hr
      obtain ⟨a, ha, hl⟩ := fastLd_load hr
      unfold resOf
      simp only []
      rw [ha, fastBind]
      exact hl.symm
    · rfl
theorem fastAll_eq (get : Nat → Value) : ∀ (l : List ResultVar) (h : AH), fastAll P get l h = arun P (l.mapM (resOf get)) h
  | [], h => by simp only [List.mapM_nil]; rfl
  | x :: l, h => by
    simp only [List.mapM_cons, fastBind, fastAll, fastOne_eq]
    cases arun P (resOf get x) h with
    | none => rfl
    | some r =>
      obtain ⟨v, h1⟩ := r
      simp only [fastAll_eq get l h1, Option.bind_some]
      cases arun P (l.mapM (resOf get)) h1 with
      | none => rfl
      | some q => rfl
def leaveW (P : Program) (recD : RecD) (fn : Func) (get : Nat → Value) (ds : List Dfr) (m : AM) (h : AH) : Option (AEnd × AH) := match ds, m with
  | [], .ret => match fastAll P get fn.results.toList h with
    | some (vs, h1) => some (.ret (resPack vs), h1)
    | none => none
  | ds, m => leaveA P recD fn get ds m h
theorem leaveW_eq (recD : RecD) (fn : Func) (get : Nat → Value) (ds : List Dfr) (m : AM) (h : AH) : leaveW P recD fn get ds m h = leaveA P recD fn get ds m h := by
  unfold leaveW
  split
  · unfold leaveA
    rw [resultsF_list, fastBind, ← fastAll_eq]
    cases fastAll P get fn.results.toList h with
    | none => rfl
    | some q => rfl
  · rfl
def stepW (P : Program) (rec : RecC) (recD : RecD) : RecF := fun g args h =>
  match P.funcs[g]? with
  | none => none
  | some fn => match fn.body with
    | none => none
    | some c =>
      cond (small (args.length + (fn.ntmps - args.length)))
        (match rec c { t := ofArgs args 0 .nil, n := args.length + (fn.ntmps - args.length) } h with
          | some (.normal, f', h1) | some (.ret, f', h1) => leaveW P recD fn f'.get f'.ds .ret h1
          | some (.panic v, f', h1) => leaveA P recD fn f'.get f'.ds (.pan v false) h1
          | _ => none) none
theorem stepW_eq (rec : RecC) (recD : RecD) : stepW P rec recD = stepF P rec recD := by
  funext g args h
  unfold stepW stepF
  simp only [leaveW_eq]
  rfl
/-! ### an interface asked of a value: what it lacks is not spelt out -/

def hasAll (want : Array (String × TypeId)) (got : Array Method) : Bool := want.toList.all fun x => got.any fun m => m.name == x.1 && m.sig == x.2
theorem missing_none {want : Array (String × TypeId)} {got : Array Method} (h : hasAll want got = true) : Instr.missingMethod want got = none := by
  unfold Instr.missingMethod
  have : (want.toList.filter fun (x : String × TypeId) => !got.any fun m => m.name == x.1 && m.sig == x.2) = [] := by
    rw [List.filter_eq_nil_iff]
    intro x hx
    have := List.all_eq_true.1 h x hx
    simp only [this]
    simp
  have h2 : (want.toList.filter fun (name, sig) => !got.any fun m => m.name == name && m.sig == sig) = [] := this
  rw [h2]
  rfl
theorem least_some : ∀ {l : List String}, l ≠ [] → ∃ m, Instr.least l = some m
  | [], h => absurd rfl h
  | _ :: _, _ => ⟨_, rfl⟩
theorem missing_some {want : Array (String × TypeId)} {got : Array Method} (h : hasAll want got = false) : ∃ m, Instr.missingMethod want got = some m := by
  have hne : (want.toList.filter fun (name, sig) => !got.any fun m => m.name == name && m.sig == sig).map (·.1) ≠ [] := by
    intro hq
    have hq' : (want.toList.filter fun (x : String × TypeId) => !got.any fun m => m.name == x.1 && m.sig == x.2) = [] := List.map_eq_nil_iff.1 hq
    have : hasAll want got = true := by
      unfold hasAll
      rw [List.all_eq_true]
      intro x hx
      have := (List.filter_eq_nil_iff.1 hq') x hx
      simpa using this
    rw [h] at this
    cases this
  unfold Instr.missingMethod
  revert hne
  generalize (want.toList.filter fun (name, sig) => !got.any fun m => m.name == name && m.sig == sig).map (·.1) = l
  intro hne
  simp only []
  rw [List.partition_eq_filter_filter]
  simp only []
  cases he : l.filter (not ∘ fun x => x.contains '.') with
  | cons y r =>
    obtain ⟨m, hm⟩ := least_some (l := y :: r) (by simp)
    exact ⟨m, by rw [hm]; rfl⟩
  | nil =>
    have hu : l.filter (fun x => x.contains '.') ≠ [] := by
      intro hu
      apply hne
      rw [List.eq_nil_iff_forall_not_mem]
      intro x hx
      have h1 := (List.filter_eq_nil_iff.1 he) x hx
      have h2 := (List.filter_eq_nil_iff.1 hu) x hx
      simp at h1 h2
      exact h2 h1
    obtain ⟨m, hm⟩ := least_some (l := (l.filter (fun x => x.contains '.')).map fun id => (id.splitOn ".").getLastD id) (by simpa using hu)
    exact ⟨m, by rw [hm]; rfl⟩
def askA (P : Program) (f : Fr) (o : Oper) (h : AH) : Option (Value × AH) := match o.op with
  | .typeAssert x _ t true => match P.underlying t, f.eval x with
    | some (.interface want), .iface u _ => match P.info? u, P.info? t with
      | some i, some j => cond (hasAll want i.methods) (some (.tuple #[f.eval x, .bool true], h)) (match j.zero with
        | some z => some (.tuple #[z, .bool false], h)
        | none => none)
      | _, _ => none
    | _, _ => none
  | _ => none
theorem fastInfo {t : TypeId} {i : TypeInfo} (hi : P.info? t = some i) (h : AH) : arun P (typeInfo t) h = some (i, h) := by
  unfold typeInfo
  rw [fastBind]
  show (arun P (match P.info? t with | some i => pure i | none => stuck "no such type") h) = _
  rw [hi]
  rfl
theorem opAt_arun (hz : ZerosFlat P) {f : Fr} {o : Oper} {h : AH} {v : Value} {h' : AH} (hgd : guardA P f.eval h o.op = some h) (e : arun P (execOp f.eval o) h = some (.value v, h')) (wf : WF h) : OpAt P gl f o h v h' := by
  have x1 := arun_ext P _ _ _ _ e wf
  obtain ⟨_, hC⟩ := guard_sound hgd wf
  refine ⟨x1, fun κ G a w K' Q hg hrel hag hfs hρ hk => ?_⟩
  obtain ⟨κ', nx', w', q1, q2, q3, q4⟩ := run_sim (op_sr hz o hρ (hC hrel (hag.left x1.1))) _ _ _ e wf G w hrel hag hfs
  cases q2 with
  | value hv => exact wp_of_gives (.inl q1) (hk κ' _ w' hv q3 q4)
theorem askA_sound (hz : ZerosFlat P) : OpSound P gl (checked gl (askA P)) := by
  refine checked_sound fun f o h v h' e wf => ?_
  unfold askA at e
  split at e
  · rename_i x xt t ho
    split at e
    · rename_i want u pl hu hx
      split at e
      · rename_i i j hi hj
        refine opAt_arun hz (by rw [ho]; rfl) ?_ wf
        unfold execOp
        rw [ho]
        simp only []
        unfold Instr.typeAssert
        rw [hx]
        simp only [fastBind, fastPure, fastUnd hu, Option.bind_some, fastInfo hi]
        cases hb : hasAll want i.methods with
        | true =>
          rw [hb] at e
          cases e
          rw [missing_none hb, hx]
          rfl
        | false =>
          rw [hb] at e
          obtain ⟨m, hm⟩ := missing_some hb
          rw [hm]
          simp only [cond_false] at e
          split at e
          · rename_i z hzr
            cases e
            have hzv : arun P (zeroValue t) h = some (z, h) := by
              unfold zeroValue
              rw [fastBind, fastInfo hj]
              simp only [Option.bind_some, hzr]
              rfl
            simp only [if_true, fastBind, hzv, Option.bind_some]
            rfl
          · cases e
      · cases e
    · cases e
  · cases e
/-- As 'run', wide aggregates in one step. -/
noncomputable def runF (P : Program) (gl : Nat) (n : Nat) : RecC × RecF × RecS × RecD :=
  Nat.rec (fun _ _ _ => none, fun _ _ _ => none, fun _ _ _ _ => none, fun _ _ _ _ => none)
    (fun _ r => (stepC P gl (orEv (orEv (checked gl (fastA P)) (checked gl (askA P))) (orEv (aop P gl r.2.1) (checked gl (specialG gl P)))) r.2.1 r.1, stepW P r.1 r.2.2.2,
      stepS P gl (orEv (orEv (checked gl (fastA P)) (checked gl (askA P))) (orEv (aop P gl r.2.1) (checked gl (specialG gl P)))) r.2.1 r.1 r.2.2.1, stepD P r.2.2.1)) n
theorem runF_sound (hz : ZerosFlat P) (hm : P.follows .mixedOrders = true) : ∀ n, CodeSound P gl (runF P gl n).1 ∧ CallSound P gl (runF P gl n).2.1 ∧ SoundS P gl (runF P gl n).2.2.1 ∧ DeferSound P gl (runF P gl n).2.2.2
  | 0 => ⟨fun _ _ _ _ _ _ e => (by cases e), fun _ _ _ _ _ e => (by cases e), fun _ _ _ _ _ _ _ _ e => (by cases e), fun _ _ _ _ _ _ e => (by cases e)⟩
  | n + 1 => by
    obtain ⟨h1, h2, h3, h4⟩ := runF_sound hz hm n
    have hev := ((fast_sound (P := P) (gl := gl) hz).or (askA_sound hz)).or ((aop_sound hz h2).or specialG_sound)
    refine ⟨stepC_sound hm hev h2 h1, ?_, stepS_sound hev h2 h1 h3, stepD_sound h3⟩
    show CallSound P gl (stepW P _ _)
    rw [stepW_eq]
    exact stepF_sound h1 h4
/-- As 'evalsAt', wide aggregates in one step. -/
noncomputable def evalsFast (P : Program) (gl : Nat) (h : AH) (n : Nat) (g : FuncId) (args : List Value) (p : Value → Bool) : Bool :=
  match (runF P gl n).2.1 g args h with
  | some (.ret v, h') => flatV v && p v && Nat.beq (Nat.land h'.wr (2 ^ h.n - 1)) 0
  | _ => false
theorem evalsFast_calls (hz : zerosFlat P = true) (hm : P.follows .mixedOrders = true) {h : AH} {n : Nat} {g : FuncId} {args : List Value} {p : Value → Bool} (e : evalsFast P gl h n g args p = true)
    {κ : K} {args' : Array Value} {w : World} (hs : Start P gl κ h w) (hargs : VL κ args args'.toList) :
    Calls P g args' w fun e w' => ∃ v, e = .returned v ∧ p v = true ∧ Below w.heap.size w w' := by
  unfold evalsFast at e
  split at e
  · rename_i v h' he
    simp only [Bool.and_eq_true, beq_eq, decide_eq_true_eq] at e
    obtain ⟨⟨e1, e2⟩, e3⟩ := e
    have hr := (runF_sound (zerosFlat_spec hz) hm n).2.1 g args _ _ h' he hs.wf
    refine (hr.2 κ h.get args' w hs.kg hs.rel hargs (fun id _ _ => rfl) (fun id hid _ => ⟨?_, ?_⟩)).mono fun en w' hen => ?_
    · cases hk : h.get id with
      | none => rfl
      | some o => have := hs.wf.dom id o hk; omega
    · cases hk : κ id with
      | none => rfl
      | some b => have := hs.lt id b hk; omega
    · obtain ⟨κ', hend, _, hkx⟩ := hen
      cases hend with
      | ret hv =>
      rename_i v'
      refine ⟨v', rfl, by rw [VR.eq_of_flat hv e1]; exact e2, hkx.same.os, hkx.same.tape, hkx.same.output, hkx.same.size, fun k hk => hkx.keep k hk fun id b hb hbk => low_bits e3 (hs.lt id b hb)⟩
  · cases e

end
end Go.Ev
namespace Go.Ev
open Go Go.RowKit
abbrev Tab := List (FuncId × List Value × Value)
def tabGet : Tab → FuncId → List Value → Option Value
  | [], _, _ => none
  | x :: l, g, args => cond (Nat.beq x.1 g && eqL x.2.1 args) (some x.2.2) (tabGet l g args)
section
variable {P : Program} {gl : Nat}
theorem tabGet_mem : ∀ {tab : Tab} {g : FuncId} {args : List Value} {v : Value}, tabGet tab g args = some v → (g, args, v) ∈ tab
  | [], _, _, _, e => by cases e
  | x :: l, g, args, v, e => by
    unfold tabGet at e
    cases hc : (Nat.beq x.1 g && eqL x.2.1 args) with
    | false => rw [hc] at e; exact List.mem_cons_of_mem _ (tabGet_mem e)
    | true =>
      rw [hc] at e
      cases e
      simp only [Bool.and_eq_true, beq_eq, decide_eq_true_eq] at hc
      obtain ⟨h1, h2⟩ := hc
      have h3 := eqL_eq _ _ h2
      subst h1 h3
      exact List.mem_cons_self ..
def TabOk (P : Program) (tab : Tab) : Prop := ∀ g args v, (g, args, v) ∈ tab → flatL args = true ∧ flatV v = true ∧ ∀ w, Calls P g ⟨args⟩ w fun e w' => e = .returned v ∧ Below w.heap.size w w'
def recT (tab : Tab) (r : RecF) : RecF := fun g args h => match tabGet tab g args with
  | some v => some (.ret v, h)
  | none => r g args h
theorem Rel.below {κ : K} {G : Nat → Option AObj} {w w' : World} (hr : Rel P κ G w) (hb : Below w.heap.size w w') : Rel P κ G w' := by
  refine ⟨fun id o h => ?_, hr.one, fun id b h => Nat.lt_of_lt_of_le (hr.old id b h) hb.size⟩
  obtain ⟨b, h1, h2⟩ := hr.at_ id o h
  exact ⟨b, h1, h2.heap (hb.block b.blk (hr.old id b h1))⟩
theorem recT_sound {tab : Tab} {r : RecF} (ht : TabOk P tab) (hr : CallSound P gl r) : CallSound P gl (recT tab r) := by
  intro g args h en h' e wf
  unfold recT at e
  split at e
  · rename_i v hv
    cases e
    obtain ⟨h1, h2, h3⟩ := ht _ _ _ (tabGet_mem hv)
    refine ⟨⟨Ext.refl _, wf⟩, fun κ G args' w hg hrel hargs hag hfs => ?_⟩
    have hargs' := VL.eq_of_flat hargs h1
    have : args' = ⟨args⟩ := by rw [← Array.toList_inj, hargs']
    subst this
    refine (h3 w).mono fun e w' hen => ?_
    obtain ⟨rfl, hb⟩ := hen
    refine ⟨κ, .ret (VR.flat _ h2), by rw [merge_self wf hag]; exact hrel.below hb, ⟨K.le_refl κ, fun _ _ => rfl, fun _ _ e => .inl e, fun k hk _ => hb.block k hk, ⟨hb.os, hb.tape, hb.output, hb.size⟩⟩⟩
  · exact hr _ _ _ _ _ e wf
noncomputable def runT (P : Program) (gl : Nat) (tab : Tab) (n : Nat) : RecC × RecF × RecS × RecD :=
  Nat.rec (fun _ _ _ => none, fun _ _ _ => none, fun _ _ _ _ => none, fun _ _ _ _ => none)
    (fun _ r => (stepC P gl (orEv (orEv (checked gl (fastA P)) (checked gl (askA P))) (orEv (aop P gl (recT tab r.2.1)) (checked gl (specialG gl P)))) (recT tab r.2.1) r.1, stepW P r.1 r.2.2.2,
      stepS P gl (orEv (orEv (checked gl (fastA P)) (checked gl (askA P))) (orEv (aop P gl (recT tab r.2.1)) (checked gl (specialG gl P)))) (recT tab r.2.1) r.1 r.2.2.1, stepD P r.2.2.1)) n
theorem runT_sound (hz : ZerosFlat P) (hm : P.follows .mixedOrders = true) {tab : Tab} (ht : TabOk P tab) : ∀ n, CodeSound P gl (runT P gl tab n).1 ∧ CallSound P gl (runT P gl tab n).2.1 ∧ SoundS P gl (runT P gl tab n).2.2.1 ∧ DeferSound P gl (runT P gl tab n).2.2.2
  | 0 => ⟨fun _ _ _ _ _ _ e => (by cases e), fun _ _ _ _ _ e => (by cases e), fun _ _ _ _ _ _ _ _ e => (by cases e), fun _ _ _ _ _ _ e => (by cases e)⟩
  | n + 1 => by
    obtain ⟨h1, h2, h3, h4⟩ := runT_sound hz hm ht n
    have h5 := recT_sound ht h2
    have hev := ((fast_sound (P := P) (gl := gl) hz).or (askA_sound hz)).or ((aop_sound hz h5).or specialG_sound)
    refine ⟨stepC_sound hm hev h5 h1, ?_, stepS_sound hev h5 h1 h3, stepD_sound h3⟩
    show CallSound P gl (stepW P _ _)
    rw [stepW_eq]
    exact stepF_sound h1 h4
/-- As 'evalsFast', with told calls. -/
noncomputable def evalsTab (P : Program) (gl : Nat) (tab : Tab) (h : AH) (n : Nat) (g : FuncId) (args : List Value) (p : Value → Bool) : Bool :=
  match (runT P gl tab n).2.1 g args h with
  | some (.ret v, h') => flatV v && p v && Nat.beq (Nat.land h'.wr (2 ^ h.n - 1)) 0
  | _ => false
theorem evalsTab_calls (hz : zerosFlat P = true) (hm : P.follows .mixedOrders = true) {tab : Tab} (ht : TabOk P tab) {h : AH} {n : Nat} {g : FuncId} {args : List Value} {p : Value → Bool} (e : evalsTab P gl tab h n g args p = true)
    {κ : K} {args' : Array Value} {w : World} (hs : Start P gl κ h w) (hargs : VL κ args args'.toList) :
    Calls P g args' w fun e w' => ∃ v, e = .returned v ∧ p v = true ∧ Below w.heap.size w w' := by
  unfold evalsTab at e
  split at e
  · rename_i v h' he
    simp only [Bool.and_eq_true, beq_eq, decide_eq_true_eq] at e
    obtain ⟨⟨e1, e2⟩, e3⟩ := e
    have hr := (runT_sound (zerosFlat_spec hz) hm ht n).2.1 g args _ _ h' he hs.wf
    refine (hr.2 κ h.get args' w hs.kg hs.rel hargs (fun id _ _ => rfl) (fun id hid _ => ⟨?_, ?_⟩)).mono fun en w' hen => ?_
    · cases hk : h.get id with
      | none => rfl
      | some o => have := hs.wf.dom id o hk; omega
    · cases hk : κ id with
      | none => rfl
      | some b => have := hs.lt id b hk; omega
    · obtain ⟨κ', hend, _, hkx⟩ := hen
      cases hend with
      | ret hv =>
      rename_i v'
      refine ⟨v', rfl, by rw [VR.eq_of_flat hv e1]; exact e2, hkx.same.os, hkx.same.tape, hkx.same.output, hkx.same.size, fun k hk => hkx.keep k hk fun id b hb hbk => low_bits e3 (hs.lt id b hb)⟩
  · cases e

end
end Go.Ev
namespace Go.Ev
open Go Go.RowKit
def setL : List (Nat × AObj) → T AObj → T AObj
  | [], t => t
  | x :: l, t => setL l (t.set 24 x.1 (some x.2))
def hOf (l : List (Nat × AObj)) (n : Nat) : AH := ⟨setL l .nil, n, 0, 0⟩
theorem setL_get : ∀ (l : List (Nat × AObj)) (t : T AObj) (id : Nat) (o : AObj), (l.all fun x => small x.1) = true → (setL l t).get id = some o → (id, o) ∈ l ∨ t.get id = some o
  | [], _, _, _, _, h => .inr h
  | x :: l, t, id, o, hs, h => by
    simp only [List.all_cons, Bool.and_eq_true] at hs
    rcases setL_get l _ id o hs.2 h with h1 | h1
    · exact .inl (List.mem_cons_of_mem _ h1)
    · rw [T.get_set 24 t x.1 (some x.2) id (small_lt hs.1)] at h1
      split at h1
      · rename_i he
        subst he
        obtain rfl := Option.some.inj h1
        exact .inl List.mem_cons_self
      · exact .inr h1
section
variable {P : Program} {gl : Nat}
/-- Where a run stands: what is known of memory, which blocks are of the call's own making, and that those ahead of them are as they were. -/
structure Stand (P : Program) (gl : Nat) (κ : K) (h : AH) (lo base : Nat) (w0 w : World) : Prop where
  start : Start P gl κ h w
  up : ∀ id b, κ id = some b → id < lo ∨ base ≤ b.blk
  below : Below base w0 w
  le : base ≤ w.heap.size
noncomputable def stepOut (P : Program) (gl : Nat) (tab : Tab) (h : AH) (n : Nat) (g : FuncId) (args : List Value) (lo : Nat) (ids : List Nat) : Option (Value × Nat × Bool × List (Option AObj)) :=
  match (Go.Ev.runT P gl tab n).2.1 g args h with
  | some (.ret v, h') => some (v, h'.n, Nat.beq (Nat.land h'.wr (2 ^ lo - 1)) 0, ids.map h'.get)
  | _ => none
theorem map_mem {h : AH} : ∀ {l : List (Nat × AObj)}, (l.map Prod.fst).map h.get = l.map (fun x => some x.2) → ∀ x ∈ l, h.get x.1 = some x.2
  | [], _, _, hx => by cases hx
  | y :: l, e, x, hx => by
    simp only [List.map_cons, List.cons.injEq] at e
    rcases List.mem_cons.1 hx with rfl | hx
    · exact e.1
    · exact map_mem e.2 x hx
theorem step_calls (hz : zerosFlat P = true) (hm : P.follows .mixedOrders = true) {tab : Tab} (ht : TabOk P tab) {h : AH} {n : Nat} {g : FuncId} {args : List Value} {lo : Nat} {l : List (Nat × AObj)} {v : Value} {N : Nat}
    (e : stepOut P gl tab h n g args lo (l.map Prod.fst) = some (v, N, true, l.map fun x => some x.2)) (hsm : (l.all fun x => small x.1) = true)
    {κ : K} {args' : Array Value} {base : Nat} {w0 w : World} (hs : Stand P gl κ h lo base w0 w) (hargs : VL κ args args'.toList) :
    Calls P g args' w fun e w' => ∃ κ' v', e = .returned v' ∧ VR κ' v v' ∧ κ.le κ' ∧ Stand P gl κ' (hOf l N) lo base w0 w' := by
  unfold stepOut at e
  split at e
  · rename_i v1 h' he
    simp only [Option.some.injEq, Prod.mk.injEq] at e
    obtain ⟨rfl, rfl, e3, e4⟩ := e
    have e3' : Nat.land h'.wr (2 ^ lo - 1) = 0 := by simpa [beq_eq] using e3
    have hr := (runT_sound (zerosFlat_spec hz) hm ht n).2.1 g args _ _ h' he hs.start.wf
    obtain ⟨⟨hx, hwf⟩, hr⟩ := hr
    refine (hr κ h.get args' w hs.start.kg hs.start.rel hargs (fun id _ _ => rfl) (fun id hid _ => ⟨?_, ?_⟩)).mono fun en w' hen => ?_
    · cases hk : h.get id with
      | none => rfl
      | some o => have := hs.start.wf.dom id o hk; omega
    · cases hk : κ id with
      | none => rfl
      | some b => have := hs.start.lt id b hk; omega
    · obtain ⟨κ', hend, hrel, hkx⟩ := hen
      cases hend with
      | ret hv =>
      rename_i v'
      have hmem := map_mem e4
      have hget : ∀ id o, (hOf l h'.n).get id = some o → h'.get id = some o := fun id o ho => by
        rcases setL_get l .nil id o hsm ho with h1 | h1
        · exact hmem _ h1
        · simp [T.get] at h1
      have hmg : merge h h' h.get = h'.get := by
        funext id
        unfold merge
        split
        · rfl
        · rename_i hn
          simp only [not_or] at hn
          rcases Nat.lt_or_ge id h.n with h1 | h1
          · exact (hx.same id h1 (by simpa using hn.2)).symm
          · have h2 : h.get id = none := by
              cases hk : h.get id with
              | none => rfl
              | some o => have := hs.start.wf.dom id o hk; omega
            rw [h2]
            cases hk : h'.get id with
            | none => rfl
            | some o => have := hwf.dom id o hk; omega
      rw [hmg] at hrel
      have hlow : ∀ id b, κ id = some b → b.blk < base → h'.wr.testBit id = false := fun id b hb hlt => by
        rcases hs.up id b hb with h1 | h1
        · exact low_bits e3' h1
        · omega
      refine ⟨κ', v', rfl, hv, hkx.le, ⟨⟨hs.start.kg.mono hkx.le, hrel.sub hget, fun id b hb => ?_, ⟨fun id o ho => hwf.dom id o (hget id o ho), fun id hid => by simp [hOf] at hid⟩⟩, fun id b hb => ?_, ?_, Nat.le_trans hs.le hkx.same.size⟩⟩
      · rcases Classical.em (h.n ≤ id ∧ id < h'.n) with h1 | h1
        · exact h1.2
        · rw [hkx.dom id h1] at hb
          exact Nat.lt_of_lt_of_le (hs.start.lt id b hb) hx.n
      · rcases hkx.new id b hb with h1 | h1 | ⟨i, c, h1, h2, h3⟩
        · exact hs.up id b h1
        · exact .inr (Nat.le_trans hs.le h1)
        · right
          rw [← h2]
          rcases Nat.lt_or_ge c.blk base with h4 | h4
          · rw [hlow i c h1 h4] at h3; cases h3
          · exact h4
      · refine hs.below.trans ⟨hkx.same.os, hkx.same.tape, hkx.same.output, hkx.same.size, fun k hk => ?_⟩
        exact hkx.keep k (Nat.lt_of_lt_of_le hk hs.le) fun id b hb hbk => hlow id b hb (by omega)
  · cases e
theorem Stand.begin {κ : K} {h : AH} {w : World} (hs : Start P gl κ h w) : Stand P gl κ h h.n w.heap.size w w :=
  ⟨hs, fun id b hb => .inl (hs.lt id b hb), Below.refl _ _, Nat.le_refl _⟩
end
end Go.Ev
namespace Go.Ev
open Go Go.RowKit
section
variable {P : Program} {κ : K}
theorem VR.tuple2 {a b v' : Value} (h : VR κ (.tuple #[a, b]) v') : ∃ a' b', v' = .tuple #[a', b'] ∧ VR κ a a' ∧ VR κ b b' := by
  cases h with
  | tuple hl =>
    cases hl with
    | cons h1 hl =>
      cases hl with
      | cons h2 hl =>
        cases hl
        exact ⟨_, _, rfl, h1, h2⟩
theorem VR.tuple4 {a b c d v' : Value} (h : VR κ (.tuple #[a, b, c, d]) v') : ∃ a' b' c' d', v' = .tuple #[a', b', c', d'] ∧ VR κ a a' ∧ VR κ b b' ∧ VR κ c c' ∧ VR κ d d' := by
  cases h with
  | tuple hl =>
    cases hl with
    | cons h1 hl =>
      cases hl with
      | cons h2 hl =>
        cases hl with
        | cons h3 hl =>
          cases hl with
          | cons h4 hl =>
            cases hl
            exact ⟨_, _, _, _, rfl, h1, h2, h3, h4⟩
theorem VR.ptr_out {a : Addr} {v' : Value} (h : VR κ (.pointer (some a)) v') : ∃ a', v' = .pointer (some a') ∧ AddrR κ a a' := by
  cases h with
  | ptr h => exact ⟨_, rfl, h⟩
theorem VR.slice_out {a : Addr} {n c : Nat} {v' : Value} (h : VR κ (.slice (some a) n c) v') : ∃ b o c', v' = .slice (some ⟨b, o, none⟩) n c' ∧ SliceR κ a n c ⟨b, o, none⟩ c' := by
  cases h with
  | slice h =>
    rename_i a' c'
    obtain ⟨b, o, z⟩ := a'
    obtain rfl : z = none := h.2.1
    exact ⟨b, o, c', rfl, h⟩
/-- A plain cell of a row that is known. -/
theorem row_cell {h : AH} {w : World} (hr : Rel P κ h.get w) {id off n c : Nat} {cs : List Value} {e : TypeId} {lo hi : Nat} {ex st : Bool} (hG : h.get id = some (.cells cs e lo hi ex st)) {b o c' : Nat}
    (hs : SliceR κ ⟨id, off, none⟩ n c ⟨b, o, none⟩ c') (hn : 0 < n) (i : Nat) (v : Value) (hi' : cs[off + i]? = some v) (hv : flatV v = true) (h1 : oneCell v = true) : w.cell? ⟨b, o + i, none⟩ = some v := by
  obtain ⟨B, hB, hO⟩ := hr.at_ id _ hG
  obtain ⟨_, _, _, c2, fz, ⟨e', hh, _⟩, _, hcell, _⟩ := hO
  obtain ⟨_, _, B2, hB2, hblk, hoff⟩ := hs
  obtain rfl := Option.some.inj (hB.symm.trans hB2)
  obtain ⟨v', hv', hR⟩ := hcell _ v hi'
  have := VR.eq_of_flat (hR h1) hv
  subst this
  have ho : o = B.sh + off := by
    rcases hoff with h | ⟨_, _, _, _, h | h⟩
    · exact h.1
    · exact h
    · omega
  simp only at hblk
  subst hblk ho
  simp only [World.cell?, hh]
  rw [Nat.add_assoc]
  simpa using hv'
end
end Go.Ev
namespace Go.Ev
open Go Go.RowKit
section
variable {P : Program}
theorem bare_get (id : Nat) : (⟨.nil, 0, 0, 0⟩ : AH).get id = none := by simp [AH.get, T.get]
theorem start_bare (w : World) : Start P 0 (fun _ => none) ⟨.nil, 0, 0, 0⟩ w where
  kg := fun g hg => absurd hg (Nat.not_lt_zero _)
  rel := ⟨fun id o h => (by rw [bare_get] at h; cases h), fun id id' o o' b b' h => (by rw [bare_get] at h; cases h), fun id b h => (by cases h)⟩
  lt := fun id b h => (by cases h)
  wf := ⟨fun id o h => (by rw [bare_get] at h; cases h), fun id h => (by simp at h)⟩
theorem flat_calls (hz : zerosFlat P = true) (hm : P.follows .mixedOrders = true) {tab : Tab} (ht : TabOk P tab) {n : Nat} {g : FuncId} {args : List Value} {v : Value} (e : evalsTab P 0 tab ⟨.nil, 0, 0, 0⟩ n g args (eqV v) = true) (hf : flatL args = true) (w : World) :
    Calls P g ⟨args⟩ w fun e w' => e = .returned v ∧ Below w.heap.size w w' := by
  refine (evalsTab_calls hz hm ht e (start_bare w) (args' := ⟨args⟩) (VL.flat _ hf)).mono ?_
  rintro e w' ⟨v', rfl, hv, hb⟩
  rw [eqV_eq _ _ hv]
  exact ⟨rfl, hb⟩
theorem Start.below {gl : Nat} {κ : K} {h : AH} {w w' : World} (hs : Start P gl κ h w) (hb : Below w.heap.size w w') : Start P gl κ h w' := ⟨hs.kg, hs.rel.below hb, hs.lt, hs.wf⟩
end
end Go.Ev
namespace Go.Ev
open Go Go.RowKit
section
variable {P : Program} {gl : Nat}
theorem Start.more {κ κ' : K} {h : AH} {w : World} {m : Nat} (hs : Start P gl κ h w) (hle : κ.le κ') (hold : ∀ id b, κ' id = some b → b.blk < w.heap.size ∧ id < m) (hm : h.n ≤ m) : Start P gl κ' { h with n := m } w where
  kg := hs.kg.mono hle
  rel := ⟨fun id o ho => let ⟨b, h1, h2⟩ := hs.rel.at_ id o ho; ⟨b, hle _ _ h1, h2.mono hle⟩, fun id id' o o' b b' h1 h2 h3 h4 h5 h6 => by
    obtain ⟨c, c1, _⟩ := hs.rel.at_ id o h1
    obtain ⟨c', c2, _⟩ := hs.rel.at_ id' o' h2
    rw [hle _ _ c1] at h3
    rw [hle _ _ c2] at h4
    cases h3; cases h4
    exact hs.rel.one id id' o o' _ _ h1 h2 c1 c2 h5 h6, fun id b h => (hold id b h).1⟩
  lt := fun id b h => (hold id b h).2
  wf := ⟨fun id o ho => Nat.lt_of_lt_of_le (hs.wf.dom id o ho) hm, fun id hid => Nat.lt_of_lt_of_le (hs.wf.wr id hid) hm⟩
/-- What the block of a told cell holds. -/
theorem Start.told {κ : K} {h : AH} {w : World} (hs : Start P gl κ h w) {id : Nat} {cs : List Value} {e : TypeId} {lo hi : Nat} {ex st : Bool} (hg : h.get id = some (.cells cs e lo hi ex st)) {b : BI} (hb : κ id = some b) (i : Nat) (v : Value) (hv : cs[i]? = some v) (h1 : oneCell v = true) :
    ∃ v', w.cell? ⟨b.blk, b.sh + i, none⟩ = some v' ∧ VR κ v v' := by
  obtain ⟨c, c1, _, _, _, c', fz, ⟨e', hh, _⟩, _, hc, _⟩ := hs.rel.at_ id _ hg
  rw [hb] at c1
  cases c1
  obtain ⟨v', a1, a2⟩ := hc i v hv
  exact ⟨v', by simp only [World.cell?, hh]; exact a1, a2 h1⟩
end
end Go.Ev
