/- Calls that read a row, told at one heap; hints for them, and for loops. Holds for every program. -/
import Derived.Test.YtnfijnioclcnmaaDoorSxLoop
namespace Go.Ev
open Go Go.RowKit

section
variable {P : Program}
/-- A heap of one row. -/
def rowH (cs : List Value) (e : TypeId) (lo hi : Nat) (ex st : Bool) (rd : Nat) : AH := ⟨T.set 24 .nil 0 (some (.cells cs e lo hi ex st)), 1, rd, 0⟩
theorem rowH_get (cs : List Value) (e : TypeId) (lo hi : Nat) (ex st : Bool) (rd : Nat) : (rowH cs e lo hi ex st rd).get 0 = some (.cells cs e lo hi ex st) := rfl
theorem rowH_wf (cs : List Value) (e : TypeId) (lo hi : Nat) (ex st : Bool) (rd : Nat) : WF (rowH cs e lo hi ex st rd) := by
  refine ⟨fun id o h => ?_, fun id h => ?_⟩
  · have := T.get_set 24 (T.nil : T AObj) 0 (some (.cells cs e lo hi ex st)) id (by decide)
    have h' : (T.set 24 (T.nil : T AObj) 0 (some (.cells cs e lo hi ex st))).get id = some o := h
    rw [this] at h'
    by_cases hi : id = 0
    · subst hi; exact Nat.zero_lt_one
    · rw [if_neg hi] at h'; cases h'
  · have h' : (0 : Nat).testBit id = true := h
    simp at h'
theorem rowH_marked (cs : List Value) (e : TypeId) (lo hi : Nat) (ex st : Bool) : Marked (rowH cs e lo hi ex st 0) (rowH cs e lo hi ex st 1) :=
  ⟨rfl, rfl, rfl, fun id h => by have h' : (0 : Nat).testBit id = true := h; simp at h'⟩
theorem flat_mem {v : Value} : ∀ {l : List Value}, flatL l = true → v ∈ l → flatV v = true
  | [], _, h => by cases h
  | x :: l, hf, h => by
    simp only [flatL, Bool.and_eq_true] at hf
    rcases List.mem_cons.1 h with rfl | h
    · exact hf.1
    · exact flat_mem hf.2 h
theorem VL.split {κ : K} : ∀ {a b l : List Value}, VL κ (a ++ b) l → ∃ a' b', l = a' ++ b' ∧ VL κ a a' ∧ VL κ b b'
  | [], b, l, h => ⟨[], l, rfl, .nil, h⟩
  | x :: a, b, l, h => by
    cases h with
    | cons h1 h2 =>
      obtain ⟨a', b', rfl, q1, q2⟩ := VL.split h2
      exact ⟨_ :: a', b', rfl, .cons h1 q1, q2⟩
theorem CTup.row {g : FuncId} {cs : List Value} {e : TypeId} {lo hi : Nat} {ex st : Bool} {off n c rd : Nat} {front rest : List Value} {v : Value} {h0' : AH}
    (t : CTup P 0 g (front ++ .slice (some ⟨0, off, none⟩) n c :: rest) (rowH cs e lo hi ex st rd) (.ret v) h0') (hff : flatL front = true) (hf : flatL rest = true) (hv : flatV v = true) (hcs : flatL cs = true) (hw : h0'.wr.testBit 0 = false)
    {h1 : AH} {id : Nat} (hg : h1.get id = some (.cells cs e lo hi ex st)) : CTup P 0 g (front ++ .slice (some ⟨id, off, none⟩) n c :: rest) h1 (.ret v) (h1.rdBit id) := by
  intro wf1
  have hn : (rowH cs e lo hi ex st rd).n = 1 := rfl
  refine CTup.pure t (rowH_wf ..) hv (fun i hi => ?_) (fun _ => id) (Marked.rdBit h1 id) (fun κ0 κ1 hk l hl => ?_) (fun i hi' _ => ?_) (fun i i' hi hi' _ _ _ => ?_) (Nat.zero_le _) (fun g hg => absurd hg (Nat.not_lt_zero _)) wf1
  · rw [hn] at hi
    obtain rfl : i = 0 := by omega
    exact hw
  · obtain ⟨l1, l2, hl0, hl1, hl2⟩ := VL.split (b := .slice (some ⟨id, off, none⟩) n c :: rest) hl
    subst hl0
    have hl1' := VL.eq_of_flat hl1 hff
    subst hl1'
    refine VL.append (VL.flat _ hff) ?_
    cases hl2 with
    | cons h1 h2 =>
      have h2' := VL.eq_of_flat h2 hf
      subst h2'
      refine .cons ?_ (VL.flat _ hf)
      cases h1 with
      | slice hs =>
        obtain ⟨a1, a2, b, a3, a4⟩ := hs
        exact .slice ⟨a1, a2, b, by rw [hk 0 (by rw [hn]; omega)]; exact a3, a4⟩
  · rw [hn] at hi'
    obtain rfl : i = 0 := by omega
    refine ⟨?_, wf1.dom id _ hg, _, _, rowH_get .., hg, fun h => h, fun κ0 κ1 hk b w hin => ?_⟩
    · unfold AH.touched; rw [rd_rdBit]; simp
    · obtain ⟨q1, q2, q3, c', fz, q4, q5, q6, q7⟩ := hin
      refine ⟨q1, q2, q3, c', fz, q4, q5, fun i v hv => ?_, q7⟩
      obtain ⟨v', r1, r2⟩ := q6 i v hv
      refine ⟨v', r1, fun ho => ?_⟩
      have hfv : flatV v = true := flat_mem hcs (List.mem_of_getElem? hv)
      rw [VR.eq_of_flat (r2 ho) hfv]
      exact VR.flat v hfv
  · rw [hn] at hi hi'; omega

/-! ### loops as hints -/

structure BlockRule (P : Program) (gl : Nat) where
  id : Nat
  c0 : Code
  N : Nat
  h0 : AH
  h1 : AH
  entry : List (Nat × Value)
  fin : List (Nat × Value)
  small : small N = true
  ok : ∀ f, f.n = N → f.ds = [] → Holds f entry → ∃ f1, LTup P gl (.block id c0) f h0 .normal f1 h1 ∧ f1.n = N ∧ f1.ds = [] ∧ Holds f1 fin
open Classical in
noncomputable def BlockRule.rest {P : Program} {gl : Nat} (b : BlockRule P gl) (f : Fr) : Fr :=
  if hx : f.n = b.N ∧ f.ds = [] ∧ Holds f b.entry then (b.ok f hx.1 hx.2.1 hx.2.2).choose else f
noncomputable def BlockRule.hint {P : Program} {gl : Nat} (b : BlockRule P gl) (c : Code) (f : Fr) (h : AH) : Option ((AExit × Fr × AH) × List Prop) :=
  some ((.normal, canonF b.N b.fin (b.rest f), b.h1), [c = b.c0 ∧ f.n = b.N ∧ f.ds = [] ∧ h = b.h0 ∧ Holds f b.entry])
def selfP : List (Nat × Value) → Prop
  | [] => True
  | (_, v) :: l => v = v ∧ selfP l
def selfB {P : Program} {gl : Nat} (b : BlockRule P gl) : Prop := b.c0 = b.c0 ∧ b.N = b.N ∧ ([] : List Dfr) = [] ∧ b.h0 = b.h0 ∧ selfP b.entry
theorem selfP_true : ∀ l, selfP l
  | [] => trivial
  | (_, _) :: l => ⟨rfl, selfP_true l⟩
theorem selfB_true {gl : Nat} (b : BlockRule P gl) : selfB b := ⟨rfl, rfl, rfl, rfl, selfP_true _⟩
theorem BlockRule.hint_ok {gl : Nat} (b : BlockRule P gl) {c : Code} {f : Fr} {h : AH} {r : AExit × Fr × AH} {ps : List Prop} (e : b.hint c f h = some (r, ps)) (hp : All ps) : LTup P gl (.block b.id c) f h r.1 r.2.1 r.2.2 := by
  unfold BlockRule.hint at e
  cases e
  obtain ⟨rfl, hn, hd, rfl, hl⟩ := hp _ (List.mem_singleton.2 rfl)
  have hx : f.n = b.N ∧ f.ds = [] ∧ Holds f b.entry := ⟨hn, hd, hl⟩
  have hr : b.rest f = (b.ok f hx.1 hx.2.1 hx.2.2).choose := dif_pos hx
  obtain ⟨q1, q2, q3, q4⟩ := (b.ok f hx.1 hx.2.1 hx.2.2).choose_spec
  rw [← hr] at q1 q2 q3 q4
  exact LTup.end_ (canonF_eq b.small q2 q3 q4) q1

/-! ### hints of all kinds -/

/-- A call that reads the row of its first argument: what it gives back, and what it asks. -/
abbrev RowFn := List Value → List Value → TypeId → Nat → Nat → Nat → List Value → Option (Value × List Prop)
/-- The first slice among the arguments. -/
def splitSl : List Value → Option (List Value × Addr × Nat × Nat × List Value)
  | [] => none
  | .slice (some a) n c :: l => some ([], a, n, c, l)
  | v :: l => match splitSl l with
    | some (front, r) => some (v :: front, r)
    | none => none
theorem splitSl_eq : ∀ {l front : List Value} {a : Addr} {n c : Nat} {rest : List Value}, splitSl l = some (front, a, n, c, rest) → l = front ++ .slice (some a) n c :: rest
  | [], _, _, _, _, _, h => by cases h
  | v :: l, front, a, n, c, rest, h => by
    unfold splitSl at h
    split at h
    · cases h
    · rename_i heq; cases heq; cases h; rfl
    · rename_i heq
      cases heq
      split at h
      · rename_i hs; cases h; rw [splitSl_eq hs]; rfl
      · cases h
abbrev RowSums := List (FuncId × RowFn)
def RowSums.at (g : FuncId) : RowSums → Option RowFn
  | [] => none
  | (k, fn) :: l => cond (Nat.beq g k) (some fn) (RowSums.at g l)
def RowOk (P : Program) (g : FuncId) (fn : RowFn) : Prop := ∀ front cs e lo hi ex st off n c rest v pre, fn front cs e off n c rest = some (v, pre) → All pre → ∀ h id, h.get id = some (.cells cs e lo hi ex st) →
  CTup P 0 g (front ++ .slice (some ⟨id, off, none⟩) n c :: rest) h (.ret v) (h.rdBit id)
def RowSums.Ok (P : Program) (l : RowSums) : Prop := ∀ x ∈ l, RowOk P x.1 x.2
abbrev Blocks (P : Program) := List (FuncId × BlockRule P 0)
def Blocks.at (g id : Nat) : Blocks P → Option (BlockRule P 0)
  | [] => none
  | (k, b) :: l => cond (Nat.beq g k && Nat.beq id b.id) (some b) (Blocks.at g id l)
def rowCall (rows : RowSums) (g : FuncId) (args : List Value) (h : AH) : Option ((AEnd × AH) × List Prop) :=
  match RowSums.at g rows with
  | none => none
  | some fn => match splitSl args with
    | some (front, a, n, c, rest) => match a.spot, h.get a.block with
      | none, some (.cells cs e _ _ _ _) => match fn front cs e a.off n c rest with
        | some (v, pre) => some ((.ret v, h.rdBit a.block), pre)
        | none => none
      | _, _ => none
    | _ => none
noncomputable def rowHints (ops : OpHints) (sums : Sums) (rows : RowSums) (blocks : Blocks P) : Hints where
  op g s := OpHints.at g s ops
  call g args h := match Sums.at g sums with
    | some fn => match fn args with
      | some v => some ((.ret v, h), [])
      | none => rowCall rows g args h
    | none => rowCall rows g args h
  block g id c f h := match Blocks.at g id blocks with
    | some b => b.hint c f h
    | none => none
theorem RowSums.at_mem {g : FuncId} {fn : RowFn} : ∀ {l : RowSums}, RowSums.at g l = some fn → (g, fn) ∈ l
  | [], h => by cases h
  | (k, f) :: l, h => by
    unfold RowSums.at at h
    cases hk : Nat.beq g k with
    | true => rw [hk] at h; cases h; rw [beq_eq, decide_eq_true_eq] at hk; subst hk; exact List.mem_cons_self ..
    | false => rw [hk] at h; exact List.mem_cons_of_mem _ (RowSums.at_mem h)
theorem Blocks.at_id {g id : Nat} {b : BlockRule P 0} : ∀ {l : Blocks P}, Blocks.at g id l = some b → b.id = id
  | [], h => by cases h
  | (k, f) :: l, h => by
    unfold Blocks.at at h
    cases hk : (Nat.beq g k && Nat.beq id f.id) with
    | true =>
      rw [hk] at h; cases h
      simp only [Bool.and_eq_true, beq_eq, decide_eq_true_eq] at hk
      exact hk.2.symm
    | false => rw [hk] at h; exact Blocks.at_id h
theorem rowCall_ok {rows : RowSums} (hr : RowSums.Ok P rows) {g : FuncId} {args : List Value} {h : AH} {en : AEnd} {h1 : AH} {pre : List Prop} (e : rowCall rows g args h = some ((en, h1), pre)) (hp : All pre) : CTup P 0 g args h en h1 := by
  unfold rowCall at e
  split at e
  · cases e
  · rename_i fn hfn
    split at e
    · rename_i front a n c rest hsp
      have hargs := splitSl_eq hsp
      subst hargs
      split at e
      · rename_i cs el lo hi ex st hs hg
        split at e
        · rename_i v pre' hv
          cases e
          obtain ⟨blk, off, spot⟩ := a
          simp only at hs
          subst hs
          exact hr _ (RowSums.at_mem hfn) front cs el lo hi ex st off n c rest v _ hv hp h blk hg
        · cases e
      · cases e
    · cases e
theorem rowHints_ok {ops : OpHints} {sums : Sums} {rows : RowSums} {blocks : Blocks P} (hs : Sums.Ok P 0 sums) (hr : RowSums.Ok P rows) : (rowHints ops sums rows blocks).Ok P 0 := by
  refine ⟨fun g args h en h1 pre e hp => ?_, fun g id c f h ex f1 h1 pre e hp => ?_⟩
  · simp only [rowHints] at e
    split at e
    · rename_i fn hfn
      split at e
      · rename_i v hv; cases e; exact hs _ (Sums.at_mem hfn) args v hv h
      · exact rowCall_ok hr e hp
    · exact rowCall_ok hr e hp
  · simp only [rowHints] at e
    split at e
    · rename_i b hb
      have := b.hint_ok e hp
      rw [Blocks.at_id hb] at this
      exact this
    · cases e
theorem RowSums.Ok.nil : RowSums.Ok P [] := fun _ h => (by cases h)
theorem RowSums.Ok.cons {g : FuncId} {fn : RowFn} {l : RowSums} (h : RowOk P g fn) (hl : RowSums.Ok P l) : RowSums.Ok P ((g, fn) :: l) := by
  intro x hx
  rcases List.mem_cons.1 hx with rfl | hx
  · exact h
  · exact hl x hx

/-! ### from a run at the row's heap -/

def rowOut : PO (AEnd × AH) → Option (Value × List Prop)
  | some ((.ret v, h1), ps) => cond (flatV v && !h1.wr.testBit 0) (some (v, ps)) none
  | _ => none
theorem row_tup (hz : zerosFlat P = true) (hm : P.follows .mixedOrders = true) {H : Hints} (hH : H.Ok P 0) {k : Nat} {g : FuncId} {cs : List Value} {e : TypeId} {lo hi : Nat} {ex st : Bool} {off n c : Nat} {front rest : List Value} {v : Value} {ps : List Prop}
    (er : rowOut ((runHR P 0 H k).2 g (front ++ .slice (some ⟨0, off, none⟩) n c :: rest) (rowH cs e lo hi ex st 0)) = some (v, ps)) (hp : All ps) (hff : flatL front = true) (hf : flatL rest = true) (hcs : flatL cs = true) {h : AH} {id : Nat} (hg : h.get id = some (.cells cs e lo hi ex st)) :
    CTup P 0 g (front ++ .slice (some ⟨id, off, none⟩) n c :: rest) h (.ret v) (h.rdBit id) := by
  unfold rowOut at er
  split at er
  · rename_i v0 h1 qs he
    cases hc : (flatV v0 && !h1.wr.testBit 0) with
    | false => rw [hc] at er; cases er
    | true =>
      rw [hc] at er
      cases er
      simp only [Bool.and_eq_true, Bool.not_eq_true'] at hc
      exact (runHR_call hz hm hH he hp).row hff hf hc.1 hcs hc.2 hg
  · cases er
/-- A round of a loop: how it leaves, what the slots hold, where the heap is. -/
def roundOut (slots : List Nat) : PO (AExit × Fr × AH) → Option (AExit × List Value × Nat × AH × List Prop)
  | some ((ex, f, h), ps) => match f.ds with
    | [] => some (ex, slots.map f.get, f.n, h, ps)
    | _ => none
  | none => none
theorem round_tup (hz : zerosFlat P = true) (hm : P.follows .mixedOrders = true) {H : Hints} (hH : H.Ok P 0) {k : Nat} {g : FuncId} {c : Code} {f : Fr} {h : AH} {ex : AExit} {slots : List Nat} {vs : List Value} {N : Nat} {h1 : AH} {ps : List Prop}
    (er : roundOut slots ((runHR P 0 H k).1 g c f h) = some (ex, vs, N, h1, ps)) (hp : All ps) : ∃ f1, LTup P 0 c f h ex f1 h1 ∧ f1.n = N ∧ f1.ds = [] ∧ Holds f1 (slots.zip vs) := by
  unfold roundOut at er
  split at er
  · rename_i ex0 f0 h0 qs he
    split at er
    · rename_i hd
      cases er
      refine ⟨f0, runHR_code hz hm hH he hp, rfl, hd, ?_⟩
      clear he hp hd
      induction slots with
      | nil => trivial
      | cons s l ih => exact ⟨rfl, ih⟩
    · cases er
  · cases er
/-- The code of a block, by its number. -/
def findBlk (id : Nat) : Code → Option Code
  | .block j c => cond (Nat.beq j id) (some c) (findBlk id c)
  | .seq a b => match findBlk id a with
    | some c => some c
    | none => findBlk id b
  | .cond _ a b => match findBlk id a with
    | some c => some c
    | none => findBlk id b
  | .loop c => findBlk id c
  | .scope c => findBlk id c
  | _ => none
def blockIn (fn : Func) (id : Nat) : Code := match fn.body with
  | some c => (findBlk id c).getD .skip
  | none => .skip
def unLoop : Code → Code
  | .loop c => c
  | c => c
/-! ### rows of bytes -/

def byteAt (cs : List Value) (i : Nat) : Int := match nth cs i with
  | some (.int _ x) => x
  | _ => 0
structure Bytes (cs : List Value) (off n : Nat) : Prop where
  flat : flatL cs = true
  at_ : ∀ i, i < n → nth cs (off + i) = some (.int .u8 (byteAt cs (off + i)))
  lo : ∀ i, i < n → 0 ≤ byteAt cs (off + i)
  hi : ∀ i, i < n → byteAt cs (off + i) < 256
  small : n ≤ 140737488355328
abbrev W64i (x : Int) : Int := IntKind.i64.wrap x
abbrev bor (a b : Int) : Int := IntKind.i64.wrap ((BitVec.ofInt 64 a ||| BitVec.ofInt 64 b).toNat : Int)
abbrev band (a b : Int) : Int := IntKind.i64.wrap ((BitVec.ofInt 64 a &&& BitVec.ofInt 64 b).toNat : Int)
abbrev ldB (cs : List Value) : OpHint := .op (ldRule fun o => .int .u8 (byteAt cs o))
theorem wrap_in {x : Int} (h0 : -9223372036854775808 ≤ x) (h1 : x < 9223372036854775808) : W64i x = x := by
  unfold W64i IntKind.wrap
  simp only [IntKind.signed, IntKind.bits, Bool.true_and, decide_eq_true_eq, ge_iff_le]
  have e1 : (2 : Int) ^ 64 = 18446744073709551616 := by decide
  have e2 : (2 : Int) ^ (64 - 1) = 9223372036854775808 := by decide
  rw [e1, e2]
  split <;> omega
theorem ofInt_toNat {x : Int} (h0 : 0 ≤ x) (h1 : x < 18446744073709551616) : (BitVec.ofInt 64 x).toNat = x.toNat := by
  rw [BitVec.toNat_ofInt]
  have e : ((2 ^ 64 : Nat) : Int) = 18446744073709551616 := by decide
  rw [e, Int.emod_eq_of_lt h0 h1]
theorem bor_add {a b : Int} (k : Nat) (ha : 0 ≤ a) (hb0 : 0 ≤ b) (hb : b < 2 ^ k) (hs : a * 2 ^ k + b < 9223372036854775808) : bor (a * 2 ^ k) b = a * 2 ^ k + b := by
  have hp : (0 : Int) < 2 ^ k := Int.pow_pos (by decide)
  have hn : 0 ≤ a * 2 ^ k := Int.mul_nonneg ha (by omega)
  unfold bor
  rw [BitVec.toNat_or, ofInt_toNat hn (by omega), ofInt_toNat hb0 (by omega)]
  have e1 : (a * 2 ^ k).toNat = a.toNat <<< k := by
    rw [Nat.shiftLeft_eq]
    have : a * 2 ^ k = ((a.toNat * 2 ^ k : Nat) : Int) := by push_cast; rw [Int.toNat_of_nonneg ha]
    rw [this]; rfl
  have hb' : b.toNat < 2 ^ k := by
    have : ((b.toNat : Nat) : Int) < ((2 ^ k : Nat) : Int) := by push_cast; rw [Int.toNat_of_nonneg hb0]; exact hb
    exact_mod_cast this
  rw [e1, ← Nat.shiftLeft_add_eq_or_of_lt hb', ← e1]
  have e2 : (((a * 2 ^ k).toNat + b.toNat : Nat) : Int) = a * 2 ^ k + b := by omega
  rw [e2]
  exact wrap_in (by omega) hs
theorem band_mask {a : Int} (k : Nat) (hk : k < 63) (h0 : 0 ≤ a) (h1 : a < 9223372036854775808) : band a (2 ^ k - 1) = a % 2 ^ k := by
  have hp : (0 : Int) < 2 ^ k := Int.pow_pos (by decide)
  have hle : (2 : Int) ^ k ≤ 2 ^ 63 := by
    have : (2 : Nat) ^ k ≤ 2 ^ 63 := Nat.pow_le_pow_right (by decide) (by omega)
    exact_mod_cast this
  have e63 : (2 : Int) ^ 63 = 9223372036854775808 := by decide
  unfold band
  rw [BitVec.toNat_and, ofInt_toNat h0 (by omega), ofInt_toNat (by omega) (by omega)]
  have e1 : ((2 : Int) ^ k - 1).toNat = 2 ^ k - 1 := by
    have : (2 : Int) ^ k = ((2 ^ k : Nat) : Int) := by push_cast; rfl
    rw [this]; have := Nat.two_pow_pos k; omega
  rw [e1, Nat.and_two_pow_sub_one_eq_mod]
  have e2 : ((a.toNat % 2 ^ k : Nat) : Int) = a % 2 ^ k := by push_cast; rw [Int.toNat_of_nonneg h0]
  rw [e2]
  have := Int.emod_lt_of_pos a hp
  have := Int.emod_nonneg a (show (2 : Int) ^ k ≠ 0 by omega)
  exact wrap_in (by omega) (by omega)
theorem Bytes.le {cs : List Value} {off n m : Nat} (h : Bytes cs off n) (hm : m ≤ n) : Bytes cs off m :=
  ⟨h.flat, fun i hi => h.at_ i (by omega), fun i hi => h.lo i (by omega), fun i hi => h.hi i (by omega), by have := h.small; omega⟩
end
end Go.Ev
