/- A certified evaluator of calls, run by the kernel, with its rules for what is not known: what it tells holds of every program. -/
import Derived.Test.YtpfndgfhfkkenaaGreatDoorKit4
namespace Go.Ev
open Go Go.RowKit
section
variable {P : Program} {gl : Nat}

theorem fastBind {α β : Type} (s : Sem α) (f : α → Sem β) (h : AH) : arun P (s >>= f) h = (arun P s h).bind fun x => arun P (f x.1) x.2 := arun_bind P s f h
theorem fastPure {α : Type} (a : α) (h : AH) : arun P (Pure.pure a : Sem α) h = some (a, h) := rfl
theorem fastUnd {t : TypeId} {d : TypeDesc} (hd : P.underlying t = some d) (h : AH) : arun P (underlying t) h = some (d, h) := by
  unfold underlying
  rw [fastBind]
  show (arun P (match P.underlying t with | some d => pure d | none => stuck "no such type") h) = _
  rw [hd]
  rfl
theorem fastSize {t : TypeId} {i : TypeInfo} (hi : P.info? t = some i) (h : AH) : arun P (sizeOf t) h = some (i.size, h) := by
  unfold sizeOf typeInfo
  rw [fastBind, fastBind]
  show ((arun P (match P.info? t with | some i => pure i | none => stuck "no such type") h).bind fun x => arun P (pure x.1.size) x.2) = _
  rw [hi]
  rfl
def takeW (c : List Value) (o k : Nat) : List Value := (c.drop o).take k
def splice (c : List Value) (o : Nat) (l : List Value) : List Value := c.take o ++ (l ++ c.drop (o + l.length))
theorem fastTwice (h : AH) (b : Nat) : (h.rdBit b).rdBit b = h.rdBit b := by
  unfold AH.rdBit
  simp only [Nat.or_assoc, Nat.or_self]
theorem T.set_set {α : Type} (f : Nat) : ∀ (t : T α) (k : Nat) (x y : Option α), T.set f (T.set f t k x) k y = T.set f t k y := by
  induction f with
  | zero => intro t k x y; rfl
  | succ f ih =>
    intro t k x y
    cases t with
    | nil =>
      simp only [T.set, beq_eq]
      by_cases hk : k = 0
      · simp [hk, T.set]
      · simp only [hk, decide_false, cond_false]
        by_cases h2 : k % 2 = 1
        · simp only [h2, decide_true, cond_true, T.set, beq_eq, hk, decide_false, cond_false, ih]
        · simp only [h2, decide_false, cond_false, T.set, beq_eq, hk, ih]
    | node v l r =>
      simp only [T.set, beq_eq]
      by_cases hk : k = 0
      · simp [hk, T.set]
      · simp only [hk, decide_false, cond_false]
        by_cases h2 : k % 2 = 1
        · simp only [h2, decide_true, cond_true, T.set, beq_eq, hk, decide_false, cond_false, ih]
        · simp only [h2, decide_false, cond_false, T.set, beq_eq, hk, ih]
theorem put_put (h : AH) (b : Nat) (o o' : AObj) : (h.put b o).put b o' = h.put b o' := by
  unfold AH.put
  simp only [T.set_set, Nat.or_assoc, Nat.or_self]
theorem fastAdd {a : Addr} (hs : a.spot = none) (i : Nat) : a.add i = ⟨a.block, a.off + i, none⟩ := addr_add_off a i hs
theorem fast_cells {c : List Value} {e : TypeId} {lo hi : Nat} {ex st : Bool} {a : Addr} (hs : a.spot = none) : ∀ (k i : Nat) (acc : Array Value) (h : AH), h.get a.block = some (.cells c e lo hi ex st) → a.off + i + k ≤ c.length →
    (takeW c (a.off + i) k).all oneCell = true → arun P (loadCellsFrom a i k acc) h = some (⟨acc.toList ++ takeW c (a.off + i) k⟩, if k = 0 then h else h.rdBit a.block)
  | 0, i, acc, h, _, _, _ => by
    simp [loadCellsFrom, takeW, pure, arun]
  | k + 1, i, acc, h, hg, hl, ho => by
    have hlt : a.off + i < c.length := by omega
    have hd : takeW c (a.off + i) (k + 1) = c[a.off + i] :: takeW c (a.off + (i + 1)) k := by
      unfold takeW
      rw [List.drop_eq_getElem_cons hlt, List.take_succ_cons]
      rfl
    rw [hd] at ho ⊢
    simp only [List.all_cons, Bool.and_eq_true] at ho
    have h1 : arun P (load (a.add i)) h = some (c[a.off + i], h.rdBit a.block) := by
      rw [fastAdd hs]
      simp only [load, arun, hg, nth_eq, List.getElem?_eq_getElem hlt, ho.1, cond_true]
    have hg' : (h.rdBit a.block).get a.block = some (.cells c e lo hi ex st) := hg
    have ih := fast_cells hs k (i + 1) (acc.push c[a.off + i]) (h.rdBit a.block) hg' (by omega) ho.2
    have e' : loadCellsFrom a i (k + 1) acc = (load (a.add i)).bind fun v => loadCellsFrom a (i + 1) k (acc.push v) := rfl
    rw [e', arun_bind, h1]
    simp only [Option.bind_some]
    rw [ih]
    simp only [Nat.add_one_ne_zero, if_false, Array.toList_push, List.append_assoc, List.singleton_append]
    by_cases hk : k = 0
    · subst hk; simp
    · simp only [hk, if_false, fastTwice]
theorem fast_store {e : TypeId} {ex st : Bool} {a : Addr} (hs : a.spot = none) (hsm : small a.block = true) : ∀ (l : List Value) (i : Nat) (h : AH) (c : List Value), h.get a.block = some (.cells c e 0 0 ex st) → a.off + i + l.length ≤ c.length →
    l.all oneCell = true → l ≠ [] → arun P (storeCells a l i) h = some ((), h.put a.block (.cells (splice c (a.off + i) l) e 0 0 ex st))
  | [], _, _, _, _, _, _, hn => absurd rfl hn
  | v :: l, i, h, c, hg, hl, ho, _ => by
    simp only [List.length_cons] at hl
    have hlt : a.off + i < c.length := by omega
    simp only [List.all_cons, Bool.and_eq_true] at ho
    have h1 : arun P (store (a.add i) v) h = some ((), h.put a.block (.cells (c.set (a.off + i) v) e 0 0 ex st)) := by
      rw [fastAdd hs]
      have hb : Nat.blt (a.off + i) c.length = true := by rw [Nat.blt_eq]; exact hlt
      have hb2 : Nat.blt (a.off + i) 0 = false := by
        cases hq : Nat.blt (a.off + i) 0 with
        | false => rfl
        | true => rw [Nat.blt_eq] at hq; omega
      have hb3 : Nat.blt 0 0 = false := rfl
      simp only [store, arun, hg, ho.1, hsm, hb, hb2, hb3, upd_eq, Bool.and_false, Bool.or_false, Bool.not_false, Bool.and_self, cond_true]
    have e' : storeCells a (v :: l) i = (store (a.add i) v).bind fun _ => storeCells a l (i + 1) := rfl
    rw [e', arun_bind, h1]
    simp only [Option.bind_some]
    have hsp : splice c (a.off + i) (v :: l) = splice (c.set (a.off + i) v) (a.off + (i + 1)) l := by
      unfold splice
      have ht : (c.set (a.off + i) v).take (a.off + (i + 1)) = c.take (a.off + i) ++ [v] := by
        rw [show a.off + (i + 1) = a.off + i + 1 by omega, List.take_add_one]
        rw [List.take_set_of_le (Nat.le_refl _)]
        simp [hlt]
      rw [ht]
      have hdr : (c.set (a.off + i) v).drop (a.off + (i + 1) + l.length) = c.drop (a.off + i + (v :: l).length) := by
        rw [List.drop_set_of_lt (by omega)]
        congr 1
        simp only [List.length_cons]; omega
      rw [hdr]
      simp
    cases l with
    | nil =>
      simp only [storeCells]
      have : splice (c.set (a.off + i) v) (a.off + (i + 1)) [] = c.set (a.off + i) v := by simp [splice]
      rw [hsp, this]
      rfl
    | cons u l =>
      have ih := fast_store (e := e) (ex := ex) (st := st) hs hsm (u :: l) (i + 1) (h.put a.block (.cells (c.set (a.off + i) v) e 0 0 ex st)) (c.set (a.off + i) v)
        (by rw [get_put hsm]; simp) (by simp only [List.length_set]; omega) ho.2 (by simp)
      rw [ih, put_put, hsp]

/-- How wide a type of aggregates is. -/
def aggW (P : Program) (t : TypeId) : Option Nat := match P.underlying t, P.info? t with
  | some (.struct _), some i => some i.size
  | some (.array _ _), some i => some i.size
  | _, _ => none
theorem fast_loadVar {t : TypeId} {n : Nat} (ht : aggW P t = some n) (a : Addr) (h : AH) : arun P (loadVar t a) h = (arun P (loadCells a n) h).bind fun x => some (.agg x.1, x.2) := by
  unfold aggW at ht
  split at ht
  · rename_i fs i hd hi
    cases ht
    unfold loadVar isAgg
    simp only [fastBind, fastPure, fastUnd hd, Option.bind_some, if_true, fastSize hi]
  · rename_i _ _ i hd hi
    cases ht
    unfold loadVar isAgg
    simp only [fastBind, fastPure, fastUnd hd, Option.bind_some, if_true, fastSize hi]
  · cases ht
def fastLd (P : Program) (t : TypeId) (x : Value) (h : AH) : Option (Value × AH) := match x with
  | .pointer (some a) => match a.spot, aggW P t, h.get a.block with
    | none, some n, some (.cells c _ _ _ _ _) => cond (Nat.ble 16 n && Nat.ble (a.off + n) c.length && (takeW c a.off n).all oneCell) (some (.agg ⟨takeW c a.off n⟩, h.rdBit a.block)) none
    | _, _, _ => none
  | _ => none
def fastSt (P : Program) (t : TypeId) (x y : Value) (h : AH) : Option (Value × AH) := match x, y with
  | .pointer (some a), .agg ⟨l⟩ => match a.spot, P.info? t, h.get a.block with
    | none, some i, some (.cells c e 0 0 ex st) => cond (Nat.ble 16 l.length && Nat.beq i.size l.length && Nat.ble (a.off + l.length) c.length && l.all oneCell && small a.block)
      (some (undef, h.put a.block (.cells (splice c a.off l) e 0 0 ex st))) none
    | _, _, _ => none
  | _, _ => none
def fastA (P : Program) : OpEv := fun f o h => match o.op with
  | .load t x => fastLd P t (f.eval x) h
  | .store t x y => fastSt P t (f.eval x) (f.eval y) h
  | _ => none
theorem flatRoute_ptr {ρ : Operand → Value} {o : Oper} {x : Operand} (hx : x ∈ o.op.operands) {a : Addr} (h : ρ x = .pointer (some a)) : flatRoute P ρ o = none := by
  unfold flatRoute
  have : (o.op.operands.toList.all fun x => flatV (ρ x)) = false := by
    cases hq : (o.op.operands.toList.all fun x => flatV (ρ x)) with
    | false => rfl
    | true =>
      have := List.all_eq_true.1 hq x (by simpa using hx)
      rw [h] at this
      cases this
  rw [this]
  rfl
theorem fastA_plain {f : Fr} {o : Oper} {h : AH} {r : Value × AH} (e : fastA P f o h = some r) : plainA P f o h = some r ∧ ∀ cs b, o.op ≠ .select cs b := by
  unfold fastA at e
  split at e
  · rename_i t x ho
    refine ⟨?_, by rw [ho]; exact fun _ _ h => by cases h⟩
    unfold fastLd at e
    split at e
    · rename_i a hx
      split at e
      · rename_i n c _ _ _ _ _ hsp hn hg
        cases hs : (Nat.ble 16 n && Nat.ble (a.off + n) c.length && (takeW c a.off n).all oneCell) with
        | false => rw [hs] at e; cases e
        | true =>
          rw [hs] at e
          cases e
          simp only [Bool.and_eq_true, Nat.ble_eq] at hs
          unfold plainA
          rw [flatRoute_ptr (x := x) (by rw [ho]; simp [Op.operands]) hx]
          simp only []
          have hguard : guardA P f.eval h o.op = some h := by rw [ho]; rfl
          rw [hguard]
          simp only []
          have hload := fast_cells (P := P) hsp n 0 #[] h hg (by omega) hs.2
          have : arun P (execOp f.eval o) h = some (.value (.agg ⟨takeW c a.off n⟩), h.rdBit a.block) := by
            unfold execOp
            rw [ho]
            simp only []
            unfold Instr.loadAt
            rw [hx]
            simp only [Instr.sureAddr, fastBind, fastPure, Option.bind_some, fast_loadVar hn]
            unfold loadCells
            rw [hload, if_neg (by omega)]
            simp
          rw [this]
      · cases e
    · cases e
  · rename_i t x y ho
    refine ⟨?_, by rw [ho]; exact fun _ _ h => by cases h⟩
    unfold fastSt at e
    split at e
    · rename_i a l hx hy
      split at e
      · rename_i i c el ex st hsp hi hg
        cases hs : (Nat.ble 16 l.length && Nat.beq i.size l.length && Nat.ble (a.off + l.length) c.length && l.all oneCell && small a.block) with
        | false => rw [hs] at e; cases e
        | true =>
          rw [hs] at e
          cases e
          simp only [Bool.and_eq_true, Nat.ble_eq] at hs
          obtain ⟨⟨⟨⟨h16, hsz⟩, hlen⟩, hone⟩, hsm⟩ := hs
          have hsz' : i.size = l.length := by rw [beq_eq, decide_eq_true_eq] at hsz; exact hsz
          unfold plainA
          rw [flatRoute_ptr (x := x) (by rw [ho]; simp [Op.operands]) hx]
          simp only []
          have hguard : guardA P f.eval h o.op = some h := by rw [ho]; rfl
          rw [hguard]
          simp only []
          have hst := fast_store (P := P) hsp hsm l 0 h c hg (by omega) hone (by intro hq; rw [hq] at h16; simp at h16)
          have : arun P (execOp f.eval o) h = some (.skip, h.put a.block (.cells (splice c a.off l) el 0 0 ex st)) := by
            unfold execOp
            rw [ho]
            simp only []
            unfold Instr.storeAt storeVar
            rw [hx, hy]
            simp only [Instr.sureAddr, fastBind, fastPure, Option.bind_some, fastSize hi, Value.cells]
            rw [hsz']
            simp only [List.size_toArray, ne_eq, not_true, if_false]
            rw [hst]
            simp
          rw [this]
      · cases e
    · cases e
  · cases e
theorem fast_sound (hz : ZerosFlat P) : OpSound P gl (checked gl (fastA P)) := by
  intro f o h v h' e wf
  unfold checked at e
  cases hall : o.op.operands.toList.all (operandOk gl) with
  | false => rw [hall] at e; cases e
  | true =>
    rw [hall] at e
    obtain ⟨e', hsel⟩ := fastA_plain e
    have hat : OpAt P gl f o h v h' := plainA_sound hz e' hsel wf
    refine ⟨hat.1, fun κ G a w K' Q hg hrel hag hfs ht hk => hat.2 κ G a w K' Q hg hrel hag hfs (fun x hx => ?_) hk⟩
    exact eval_rel hg (fun t hxt => ht t (hxt ▸ hx)) (List.all_eq_true.1 hall x (by simpa using hx))
theorem fastLd_load {t : TypeId} {x : Value} {h : AH} {r : Value × AH} (e : fastLd P t x h = some r) : ∃ a, x = .pointer (some a) ∧ arun P (loadVar t a) h = some r := by
  unfold fastLd at e
  split at e
  · rename_i a
    split at e
    · rename_i n c _ _ _ _ _ hsp hn hg
      cases hs : (Nat.ble 16 n && Nat.ble (a.off + n) c.length && (takeW c a.off n).all oneCell) with
      | false => rw [hs] at e; cases e
      | true =>
        rw [hs] at e
        cases e
        simp only [Bool.and_eq_true, Nat.ble_eq] at hs
        refine ⟨a, rfl, ?_⟩
        have hload := fast_cells (P := P) hsp n 0 #[] h hg (by omega) hs.2
        rw [fast_loadVar hn]
        unfold loadCells
        rw [hload, if_neg (by omega)]
        simp
    · cases e
  · cases e

/-! ### results -/

def fastOne (P : Program) (get : Nat → Value) (h : AH) : ResultVar → Option (Value × AH)
  | .tmp t => some (get t, h)
  | .cell a t => match fastLd P t (get a) h with
    | some r => some r
    | none => arun P (resOf get (.cell a t)) h
def fastAll (P : Program) (get : Nat → Value) : List ResultVar → AH → Option (List Value × AH)
  | [], h => some ([], h)
  | x :: l, h => match fastOne P get h x with
    | none => none
    | some (v, h1) => match fastAll P get l h1 with
      | none => none
      | some (vs, h2) => some (v :: vs, h2)
theorem fastOne_eq (get : Nat → Value) (h : AH) (x : ResultVar) : fastOne P get h x = arun P (resOf get x) h := by
  cases x with
  | tmp t => rfl
  | cell c t =>
    unfold fastOne
    simp only []
    split
    · rename_i r hr
      obtain ⟨a, ha, hl⟩ := fastLd_load hr
      unfold resOf
      simp only []
      rw [ha, fastBind]
      exact hl.symm
    · rfl
theorem fastAll_eq (get : Nat → Value) : ∀ (l : List ResultVar) (h : AH), fastAll P get l h = arun P (l.mapM (resOf get)) h
  | [], h => by simp only [List.mapM_nil]; rfl
  | x :: l, h => by
    simp only [List.mapM_cons, fastBind, fastAll, fastOne_eq]
    cases arun P (resOf get x) h with
    | none => rfl
    | some r =>
      obtain ⟨v, h1⟩ := r
      simp only [fastAll_eq get l h1, Option.bind_some]
      cases arun P (l.mapM (resOf get)) h1 with
      | none => rfl
      | some q => rfl
def leaveW (P : Program) (recD : RecD) (fn : Func) (get : Nat → Value) (ds : List Dfr) (m : AM) (h : AH) : Option (AEnd × AH) := match ds, m with
  | [], .ret => match fastAll P get fn.results.toList h with
    | some (vs, h1) => some (.ret (resPack vs), h1)
    | none => none
  | ds, m => leaveA P recD fn get ds m h
theorem leaveW_eq (recD : RecD) (fn : Func) (get : Nat → Value) (ds : List Dfr) (m : AM) (h : AH) : leaveW P recD fn get ds m h = leaveA P recD fn get ds m h := by
  unfold leaveW
  split
  · unfold leaveA
    rw [resultsF_list, fastBind, ← fastAll_eq]
    cases fastAll P get fn.results.toList h with
    | none => rfl
    | some q => rfl
  · rfl
def stepW (P : Program) (rec : RecC) (recD : RecD) : RecF := fun g args h =>
  match P.funcs[g]? with
  | none => none
  | some fn => match fn.body with
    | none => none
    | some c =>
      cond (small (args.length + (fn.ntmps - args.length)))
        (match rec c { t := ofArgs args 0 .nil, n := args.length + (fn.ntmps - args.length) } h with
          | some (.normal, f', h1) | some (.ret, f', h1) => leaveW P recD fn f'.get f'.ds .ret h1
          | some (.panic v, f', h1) => leaveA P recD fn f'.get f'.ds (.pan v false) h1
          | _ => none) none
theorem stepW_eq (rec : RecC) (recD : RecD) : stepW P rec recD = stepF P rec recD := by
  funext g args h
  unfold stepW stepF
  simp only [leaveW_eq]
  rfl
/-! ### an interface asked of a value: what it lacks is not spelt out -/

def hasAll (want : Array (String × TypeId)) (got : Array Method) : Bool := want.toList.all fun x => got.any fun m => m.name == x.1 && m.sig == x.2
theorem missing_none {want : Array (String × TypeId)} {got : Array Method} (h : hasAll want got = true) : Instr.missingMethod want got = none := by
  unfold Instr.missingMethod
  have : (want.toList.filter fun (x : String × TypeId) => !got.any fun m => m.name == x.1 && m.sig == x.2) = [] := by
    rw [List.filter_eq_nil_iff]
    intro x hx
    have := List.all_eq_true.1 h x hx
    simp only [this]
    simp
  have h2 : (want.toList.filter fun (name, sig) => !got.any fun m => m.name == name && m.sig == sig) = [] := this
  rw [h2]
  rfl
theorem least_some : ∀ {l : List String}, l ≠ [] → ∃ m, Instr.least l = some m
  | [], h => absurd rfl h
  | _ :: _, _ => ⟨_, rfl⟩
theorem missing_some {want : Array (String × TypeId)} {got : Array Method} (h : hasAll want got = false) : ∃ m, Instr.missingMethod want got = some m := by
  have hne : (want.toList.filter fun (name, sig) => !got.any fun m => m.name == name && m.sig == sig).map (·.1) ≠ [] := by
    intro hq
    have hq' : (want.toList.filter fun (x : String × TypeId) => !got.any fun m => m.name == x.1 && m.sig == x.2) = [] := List.map_eq_nil_iff.1 hq
    have : hasAll want got = true := by
      unfold hasAll
      rw [List.all_eq_true]
      intro x hx
      have := (List.filter_eq_nil_iff.1 hq') x hx
      simpa using this
    rw [h] at this
    cases this
  unfold Instr.missingMethod
  revert hne
  generalize (want.toList.filter fun (name, sig) => !got.any fun m => m.name == name && m.sig == sig).map (·.1) = l
  intro hne
  simp only []
  rw [List.partition_eq_filter_filter]
  simp only []
  cases he : l.filter (not ∘ fun x => x.contains '.') with
  | cons y r =>
    obtain ⟨m, hm⟩ := least_some (l := y :: r) (by simp)
    exact ⟨m, by rw [hm]; rfl⟩
  | nil =>
    have hu : l.filter (fun x => x.contains '.') ≠ [] := by
      intro hu
      apply hne
      rw [List.eq_nil_iff_forall_not_mem]
      intro x hx
      have h1 := (List.filter_eq_nil_iff.1 he) x hx
      have h2 := (List.filter_eq_nil_iff.1 hu) x hx
      simp at h1 h2
      exact h2 h1
    obtain ⟨m, hm⟩ := least_some (l := (l.filter (fun x => x.contains '.')).map fun id => (id.splitOn ".").getLastD id) (by simpa using hu)
    exact ⟨m, by rw [hm]; rfl⟩
def askA (P : Program) (f : Fr) (o : Oper) (h : AH) : Option (Value × AH) := match o.op with
  | .typeAssert x _ t true => match P.underlying t, f.eval x with
    | some (.interface want), .iface u _ => match P.info? u, P.info? t with
      | some i, some j => cond (hasAll want i.methods) (some (.tuple #[f.eval x, .bool true], h)) (match j.zero with
        | some z => some (.tuple #[z, .bool false], h)
        | none => none)
      | _, _ => none
    | _, _ => none
  | _ => none
theorem fastInfo {t : TypeId} {i : TypeInfo} (hi : P.info? t = some i) (h : AH) : arun P (typeInfo t) h = some (i, h) := by
  unfold typeInfo
  rw [fastBind]
  show (arun P (match P.info? t with | some i => pure i | none => stuck "no such type") h) = _
  rw [hi]
  rfl
theorem opAt_arun (hz : ZerosFlat P) {f : Fr} {o : Oper} {h : AH} {v : Value} {h' : AH} (hgd : guardA P f.eval h o.op = some h) (e : arun P (execOp f.eval o) h = some (.value v, h')) (wf : WF h) : OpAt P gl f o h v h' := by
  have x1 := arun_ext P _ _ _ _ e wf
  obtain ⟨_, hC⟩ := guard_sound hgd wf
  refine ⟨x1, fun κ G a w K' Q hg hrel hag hfs hρ hk => ?_⟩
  obtain ⟨κ', nx', w', q1, q2, q3, q4⟩ := run_sim (op_sr hz o hρ (hC hrel (hag.left x1.1))) _ _ _ e wf G w hrel hag hfs
  cases q2 with
  | value hv => exact wp_of_gives (.inl q1) (hk κ' _ w' hv q3 q4)
theorem askA_sound (hz : ZerosFlat P) : OpSound P gl (checked gl (askA P)) := by
  refine checked_sound fun f o h v h' e wf => ?_
  unfold askA at e
  split at e
  · rename_i x xt t ho
    split at e
    · rename_i want u pl hu hx
      split at e
      · rename_i i j hi hj
        refine opAt_arun hz (by rw [ho]; rfl) ?_ wf
        unfold execOp
        rw [ho]
        simp only []
        unfold Instr.typeAssert
        rw [hx]
        simp only [fastBind, fastPure, fastUnd hu, Option.bind_some, fastInfo hi]
        cases hb : hasAll want i.methods with
        | true =>
          rw [hb] at e
          cases e
          rw [missing_none hb, hx]
          rfl
        | false =>
          rw [hb] at e
          obtain ⟨m, hm⟩ := missing_some hb
          rw [hm]
          simp only [cond_false] at e
          split at e
          · rename_i z hzr
            cases e
            have hzv : arun P (zeroValue t) h = some (z, h) := by
              unfold zeroValue
              rw [fastBind, fastInfo hj]
              simp only [Option.bind_some, hzr]
              rfl
            simp only [if_true, fastBind, hzv, Option.bind_some]
            rfl
          · cases e
      · cases e
    · cases e
  · cases e
/-- As 'run', wide aggregates in one step. -/
noncomputable def runF (P : Program) (gl : Nat) (n : Nat) : RecC × RecF × RecS × RecD :=
  Nat.rec (fun _ _ _ => none, fun _ _ _ => none, fun _ _ _ _ => none, fun _ _ _ _ => none)
    (fun _ r => (stepC P gl (orEv (orEv (checked gl (fastA P)) (checked gl (askA P))) (orEv (aop P gl r.2.1) (checked gl (specialG gl P)))) r.2.1 r.1, stepW P r.1 r.2.2.2,
      stepS P gl (orEv (orEv (checked gl (fastA P)) (checked gl (askA P))) (orEv (aop P gl r.2.1) (checked gl (specialG gl P)))) r.2.1 r.1 r.2.2.1, stepD P r.2.2.1)) n
theorem runF_sound (hz : ZerosFlat P) (hm : P.follows .mixedOrders = true) : ∀ n, CodeSound P gl (runF P gl n).1 ∧ CallSound P gl (runF P gl n).2.1 ∧ SoundS P gl (runF P gl n).2.2.1 ∧ DeferSound P gl (runF P gl n).2.2.2
  | 0 => ⟨fun _ _ _ _ _ _ e => (by cases e), fun _ _ _ _ _ e => (by cases e), fun _ _ _ _ _ _ _ _ e => (by cases e), fun _ _ _ _ _ _ e => (by cases e)⟩
  | n + 1 => by
    obtain ⟨h1, h2, h3, h4⟩ := runF_sound hz hm n
    have hev := ((fast_sound (P := P) (gl := gl) hz).or (askA_sound hz)).or ((aop_sound hz h2).or specialG_sound)
    refine ⟨stepC_sound hm hev h2 h1, ?_, stepS_sound hev h2 h1 h3, stepD_sound h3⟩
    show CallSound P gl (stepW P _ _)
    rw [stepW_eq]
    exact stepF_sound h1 h4
/-- As 'evalsAt', wide aggregates in one step. -/
noncomputable def evalsFast (P : Program) (gl : Nat) (h : AH) (n : Nat) (g : FuncId) (args : List Value) (p : Value → Bool) : Bool :=
  match (runF P gl n).2.1 g args h with
  | some (.ret v, h') => flatV v && p v && Nat.beq (Nat.land h'.wr (2 ^ h.n - 1)) 0
  | _ => false
theorem evalsFast_calls (hz : zerosFlat P = true) (hm : P.follows .mixedOrders = true) {h : AH} {n : Nat} {g : FuncId} {args : List Value} {p : Value → Bool} (e : evalsFast P gl h n g args p = true)
    {κ : K} {args' : Array Value} {w : World} (hs : Start P gl κ h w) (hargs : VL κ args args'.toList) :
    Calls P g args' w fun e w' => ∃ v, e = .returned v ∧ p v = true ∧ Below w.heap.size w w' := by
  unfold evalsFast at e
  split at e
  · rename_i v h' he
    simp only [Bool.and_eq_true, beq_eq, decide_eq_true_eq] at e
    obtain ⟨⟨e1, e2⟩, e3⟩ := e
    have hr := (runF_sound (zerosFlat_spec hz) hm n).2.1 g args _ _ h' he hs.wf
    refine (hr.2 κ h.get args' w hs.kg hs.rel hargs (fun id _ _ => rfl) (fun id hid _ => ⟨?_, ?_⟩)).mono fun en w' hen => ?_
    · cases hk : h.get id with
      | none => rfl
      | some o => have := hs.wf.dom id o hk; omega
    · cases hk : κ id with
      | none => rfl
      | some b => have := hs.lt id b hk; omega
    · obtain ⟨κ', hend, _, hkx⟩ := hen
      cases hend with
      | ret hv =>
      rename_i v'
      refine ⟨v', rfl, by rw [VR.eq_of_flat hv e1]; exact e2, hkx.same.os, hkx.same.tape, hkx.same.output, hkx.same.size, fun k hk => hkx.keep k hk fun id b hb hbk => low_bits e3 (hs.lt id b hb)⟩
  · cases e

end
end Go.Ev
