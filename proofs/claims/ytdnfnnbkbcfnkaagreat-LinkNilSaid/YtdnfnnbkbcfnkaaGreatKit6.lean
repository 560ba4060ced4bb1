/- A certified evaluator of calls, run by the kernel, with its rules for what is not known: what it tells holds of every program. -/
import Derived.ChangeSlices
import Derived.Test.YtdnfnnbkbcfnkaaGreatKit4
import Derived.Test.YtdnfnnbkbcfnkaaGreatKit5
namespace Go.Ev
open Go Go.RowKit Go.ChangeShapes Go.WideShapes

section
variable {P : Program}
/-- The row of an argument: of what type its block is, is not told. -/
abbrev cameH (cs : List Value) (e : TypeId) : AH := rowH cs e 1 0 false false 0
theorem VL.flats {κ : K} {l : List Value} (h : flatL l = true) : VL κ l l := VL.flat l h
/-- What is known of a row that has come in. -/
structure Came (w : World) (cs : List Value) (a : Addr) : Prop where
  spot : a.spot = none
  row : ∃ cs' e' fz, w.heap[a.block]? = some (.cells cs' e' fz) ∧ a.off + cs.length ≤ cs'.size ∧ ∀ i x, cs[i]? = some x → cs'[a.off + i]? = some x
  flat : flatL cs = true
/-- The rows of the arguments, one behind the other, as views of whatever blocks they lie in. -/
def cameG (e : TypeId) (rows : List (List Value × Addr)) : Nat → Option AObj := fun id => (rows[id]?).map fun r => .cells r.1 e 1 0 false false
noncomputable def cameK (P : Program) (w : World) (e : TypeId) (rows : List (List Value × Addr)) : K := fun id => (rows[id]?).map fun r =>
  ⟨r.2.block, r.2.off, (match (w.heap[r.2.block]? : Option Obj) with
    | some (Obj.cells cs' _ _) => cs'.size
    | _ => 0), false, P.cellsOf e⟩
theorem came_rel {w : World} {e : TypeId} {rows : List (List Value × Addr)} (hr : ∀ r ∈ rows, Came w r.1 r.2) : Rel P (cameK P w e rows) (cameG e rows) w := by
  have hat : ∀ id o, cameG e rows id = some o → ∃ r, rows[id]? = some r ∧ o = .cells r.1 e 1 0 false false := fun id o ho => by
    unfold cameG at ho
    cases hi : rows[id]? with
    | none => rw [hi] at ho; cases ho
    | some r => rw [hi] at ho; cases ho; exact ⟨r, rfl, rfl⟩
  refine ⟨fun id o ho => ?_, fun id id' o o' x x' ho ho' _ _ _ hv => ?_, fun id x hx => ?_⟩
  · obtain ⟨r, hri, rfl⟩ := hat id o ho
    have hc := hr r (List.mem_of_getElem? hri)
    obtain ⟨cs', e', fz, hh, hlen, hcells⟩ := hc.row
    refine ⟨⟨r.2.block, r.2.off, cs'.size, false, P.cellsOf e⟩, ?_, rfl, by simp, hlen, cs', fz, ⟨e', hh, fun h => absurd h (by decide)⟩, rfl,
      fun i x hx => ⟨x, hcells i x hx, fun _ => VR.flat x (flat_mem hc.flat (List.mem_of_getElem? hx))⟩, fun h => absurd h (by decide)⟩
    unfold cameK
    rw [hri]
    simp [hh]
  · obtain ⟨r, _, rfl⟩ := hat id o ho
    obtain ⟨r', _, rfl⟩ := hat id' o' ho'
    simp [AObj.view, Nat.blt] at hv
  · unfold cameK at hx
    cases hi : rows[id]? with
    | none => rw [hi] at hx; cases hx
    | some r =>
      rw [hi] at hx
      cases hx
      obtain ⟨cs', e', fz, hh, _⟩ := (hr r (List.mem_of_getElem? hi)).row
      exact (Array.getElem?_eq_some_iff.1 hh).1
theorem came_slice {w : World} {e : TypeId} {rows : List (List Value × Addr)} {id : Nat} {r : List Value × Addr} (hr : rows[id]? = some r) (hs : r.2.spot = none) (n c : Nat) :
    VR (cameK P w e rows) (.slice (some ⟨id, 0, none⟩) n c) (.slice (some r.2) n c) :=
  .slice ⟨rfl, hs, _, by unfold cameK; rw [hr]; rfl, rfl, .inl ⟨rfl, rfl⟩⟩
/-- A call over rows that have come in. -/
theorem CTup.came {g : FuncId} {e : TypeId} {rows : List (List Value × Addr)} {args args' : List Value} {v : Value} {h0 h1 : AH} (t : CTup P 0 g args h0 (.ret v) h1) (wf : WF h0) (hn : h0.n = rows.length)
    (hg : ∀ id, id < rows.length → h0.get id = cameG e rows id) (hw : ∀ id, id < rows.length → h1.wr.testBit id = false) (hv : flatV v = true)
    {w : World} (hr : ∀ r ∈ rows, Came w r.1 r.2) (hargs : VL (cameK P w e rows) args args') :
    Calls P g ⟨args'⟩ w fun en w' => en = .returned v ∧ Below w.heap.size w w' := by
  have hout : ∀ id, rows.length ≤ id → rows[id]? = none := fun id h => List.getElem?_eq_none h
  refine ((t wf).2 (cameK P w e rows) (cameG e rows) ⟨args'⟩ w (fun g hg => absurd hg (Nat.not_lt_zero _)) (came_rel hr) hargs (fun id hid _ => (hg id (by omega)).symm) (fun id hid _ => ?_)).mono fun en w' hen => ?_
  · have := hout id (by omega)
    exact ⟨by unfold cameG; rw [this]; rfl, by unfold cameK; rw [this]; rfl⟩
  · obtain ⟨κ', hend, _, hkx⟩ := hen
    cases hend with
    | ret hr' =>
    refine ⟨by rw [VR.eq_of_flat hr' hv], hkx.same.os, hkx.same.tape, hkx.same.output, hkx.same.size, fun k hk => hkx.keep k hk fun id x hx _ => ?_⟩
    rcases Nat.lt_or_ge id rows.length with h | h
    · exact hw id h
    · unfold cameK at hx
      rw [hout id h] at hx
      cases hx

/-- The bytes that have come in. -/
def u8L (zs : List Int) : List Value := zs.map fun x => .int .u8 x
theorem flatL_u8 : ∀ zs : List Int, flatL (u8L zs) = true
  | [] => rfl
  | x :: zs => by
    show (flatV (.int .u8 x) && flatL (u8L zs)) = true
    rw [flatL_u8 zs]; rfl
theorem u8L_get {zs : List Int} {i : Nat} {x : Value} (h : (u8L zs)[i]? = some x) : i < zs.length ∧ x = .int .u8 (zs.getD i 0) := by
  unfold u8L at h
  rw [List.getElem?_map] at h
  cases hz : zs[i]? with
  | none => rw [hz] at h; cases h
  | some z =>
    rw [hz] at h
    cases h
    refine ⟨(List.getElem?_eq_some_iff.1 hz).1, ?_⟩
    simp [List.getD, hz]
theorem byteAt_u8 {zs : List Int} {i : Nat} (h : i < zs.length) : byteAt (u8L zs) i = zs.getD i 0 ∧ nth (u8L zs) i = some (.int .u8 (zs.getD i 0)) := by
  have e : nth (u8L zs) i = some (.int .u8 (zs.getD i 0)) := by
    rw [nth_eq]
    unfold u8L
    rw [List.getElem?_map]
    simp [List.getD, List.getElem?_eq_getElem h]
  exact ⟨by unfold byteAt; rw [e], e⟩
theorem bytes_u8 {zs : List Int} (hz : ∀ x ∈ zs, 0 ≤ x ∧ x < 256) {n : Nat} (hn : n ≤ zs.length) (hs : n ≤ 140737488355328) : Bytes (u8L zs) 0 n := by
  have hm : ∀ i, i < n → 0 ≤ zs.getD i 0 ∧ zs.getD i 0 < 256 := fun i hi => by
    have hlt : i < zs.length := by omega
    have : zs.getD i 0 = zs[i] := by simp [List.getD, List.getElem?_eq_getElem hlt]
    rw [this]
    exact hz _ (List.getElem_mem hlt)
  refine ⟨flatL_u8 zs, fun i hi => ?_, fun i hi => ?_, fun i hi => ?_, hs⟩
  · rw [Nat.zero_add]; have := byteAt_u8 (zs := zs) (i := i) (by omega); rw [this.1]; exact this.2
  · rw [Nat.zero_add]; have := byteAt_u8 (zs := zs) (i := i) (by omega); rw [this.1]; exact (hm i hi).1
  · rw [Nat.zero_add]; have := byteAt_u8 (zs := zs) (i := i) (by omega); rw [this.1]; exact (hm i hi).2
theorem rowAt_off {fits : TypeId → Bool} {d : Nat} {e : TypeId} {count off n : Nat} (h : rowAt P fits d e count off n = true) : off ≤ count * P.cellsOf e := by
  cases d with
  | zero => cases h
  | succ d =>
    unfold rowAt at h
    simp only [] at h
    split at h
    · cases h
    · rename_i hs
      have hd : off = P.cellsOf e * (off / P.cellsOf e) + off % P.cellsOf e := (Nat.div_add_mod ..).symm
      have hr : off % P.cellsOf e < P.cellsOf e := Nat.mod_lt _ (by omega)
      simp only [Bool.or_eq_true, Bool.and_eq_true, beq_iff_eq, decide_eq_true_eq] at h
      rcases h with ⟨⟨h1, h2⟩, _⟩ | ⟨h1, _⟩
      · rw [hd, h1, Nat.add_zero, Nat.mul_comm]
        exact Nat.mul_le_mul_right _ (by omega)
      · have : P.cellsOf e * (off / P.cellsOf e) + P.cellsOf e ≤ count * P.cellsOf e := by
          rw [← Nat.mul_succ, Nat.mul_comm]
          exact Nat.mul_le_mul_right _ h1
        omega
theorem liesAt_off {e : TypeId} {count off : Nat} : ∀ {d : Nat} {u : TypeId} {n : Nat}, liesAt P d e count off u n = true → off ≤ count * P.cellsOf e
  | 0, _, _, h => by cases h
  | d + 1, u, n, h => by
    unfold liesAt at h
    simp only [Bool.or_eq_true] at h
    rcases h with h | h
    · exact rowAt_off h
    · split at h
      · exact liesAt_off h
      · cases h
/-- A slice of bytes that has come in: nothing, or a row's part whose bytes are known. -/
theorem bytes_came {H : Type} {enc : TypeId × Value → H} {W : World} {t e : TypeId} {v : Value} {b0 : Nat} {d : DataW H} {ps : List MemPlace} (ht : P.underlying t = some (.slice e)) (he : P.underlying e = some (.int .u8)) (hc : P.cellsOf e = 1)
    (hval : Value.okWide P W .any b0 t v) (hd : DataW.Trod enc P W 0 (fun _ => true) true t v d ps) :
    v = .slice none 0 0 ∨ ∃ a n c zs, v = .slice (some a) n c ∧ Came W (u8L zs) a ∧ n ≤ c ∧ zs.length = c ∧ (∀ x ∈ zs, 0 ≤ x ∧ x < 256) ∧ ∃ ls ss, d = .slice ls ss ∧ ls.length + ss.length = c := by
  rcases slice_came ht hval with rfl | ⟨a, n, c, rfl, hs, hlt⟩
  · exact .inl rfl
  right
  obtain ⟨fuel, hf⟩ := hd
  rcases open_ints ht he hc hf with ⟨hx, _⟩ | ⟨a1, n1, c1, zs, hx, _, hl, _, hz, hdd, hcell, hwf⟩
  · cases hx
  · simp only [if_true] at hz
    have hx' : [Value.slice (some a) n c] = [Value.slice (some a1) n1 c1] := hx
    cases hx'
    have hrow : ∀ i, i < c → ∃ cs' e' fz, W.heap[a.block]? = some (.cells cs' e' fz) ∧ cs'[a.off + i]? = some (.int .u8 (zs.getD i 0)) := fun i hi => by
      have := hcell i (by omega)
      rw [addr_add hs] at this
      unfold World.cell? at this
      simp only [] at this
      cases hh : W.heap[a.block]? with
      | none => rw [hh] at this; cases this
      | some o =>
        rw [hh] at this
        cases o with
        | cells cs' e' fz => exact ⟨cs', e', fz, rfl, this⟩
        | _ => cases this
    have hblk : ∃ cs' e' fz, W.heap[a.block]? = some (.cells cs' e' fz) ∧ a.off + c ≤ cs'.size := by
      have h := hval
      simp only [Value.okWide, ht, Cell.okWide, Cell.ok, World.has] at h
      obtain ⟨_, _, _, hsp, row, cells, hsh, hlies⟩ := h
      unfold World.shape? at hsh
      cases hh : W.heap[a.block]? with
      | none => rw [hh] at hsh; cases hsh
      | some o =>
        rw [hh] at hsh
        cases o with
        | cells cs' e' fz =>
          simp only [Option.some.injEq, Prod.mk.injEq] at hsh
          obtain ⟨h1, h2⟩ := hsh
          subst h1 h2
          refine ⟨cs', e', fz, rfl, ?_⟩
          rcases Nat.eq_zero_or_pos c with hc0 | hc0
          · have h1 := liesAt_off hlies
            have h2 : cs'.size / P.cellsOf e' * P.cellsOf e' ≤ cs'.size := Nat.div_mul_le_self ..
            omega
          · obtain ⟨cs2, e2, fz2, g1, g2⟩ := hrow (c - 1) (by omega)
            rw [hh] at g1
            cases g1
            have := (Array.getElem?_eq_some_iff.1 g2).1
            omega
        | _ => cases hsh
    obtain ⟨cs', e', fz, hh, hle⟩ := hblk
    refine ⟨a, n, c, zs, rfl, ⟨hs, ⟨cs', e', fz, hh, by unfold u8L; simp; omega, fun i x hx => ?_⟩, flatL_u8 zs⟩, hl, hz, fun x hx => ?_, _, _, congrArg Prod.fst hdd, ?_⟩
    · obtain ⟨g1, rfl⟩ := u8L_get hx
      obtain ⟨cs2, e2, fz2, g2, g3⟩ := hrow i (by omega)
      rw [hh] at g2
      cases g2
      exact g3
    · have := hwf x hx
      simp only [Lit.wf, Bool.and_eq_true, decide_eq_true_eq] at this
      have e1 : IntKind.u8.min = 0 := by decide
      have e2 : IntKind.u8.max = 255 := by decide
      rw [e1, e2] at this
      omega
    · simp [lits]; omega
end
end Go.Ev
namespace Go.Ev
open Go Go.RowKit

section
variable {P : Program} {gl : Nat}
def noneOf : Value → Bool
  | .slice none 0 0 => true
  | .slice (some _) 0 _ => true
  | _ => false
def apZeroRun (P : Program) (gl : Nat) (f : Fr) (o : Oper) (h : AH) : Option ((Value × AH) × List Prop) :=
  cond (o.op.operands.toList.all (operandOk gl))
    (match o.op with
      | .call c => match c.callee, c.argTypes.toList, c.args.toList.map f.eval with
        | .builtin .append, [t, xt], [.slice (some b) n0 c0, x] => match P.underlying t, P.underlying xt with
          | some (.slice e), some (.slice _) => match P.info? e with
            | some _ => cond (noneOf x) (some ((.slice (some b) n0 c0, h), [n0 ≤ c0])) none
            | none => none
          | _, _ => none
        | _, _, _ => none
      | _ => none) none
theorem apZero_ok : ∀ P gl f o h r ps, isCall P f o = none → apZeroRun P gl f o h = some (r, ps) → All ps → evR P gl noF f o h = some r := by
  intro P gl f o h r ps _ e hp
  unfold apZeroRun at e
  cases hc : o.op.operands.toList.all (operandOk gl) with
  | false => rw [hc] at e; cases e
  | true =>
    rw [hc] at e
    simp only [cond_true] at e
    split at e
    · rename_i cl ho
      split at e
      · rename_i t xt b n0 c0 x hcal hat hargs
        split at e
        · rename_i el ex' ht hxt
          split at e
          · rename_i i hi
            cases hs : noneOf x with
            | false => rw [hs] at e; cases e
            | true =>
              rw [hs] at e
              cases e
              have b1 := hp _ (List.mem_singleton.2 rfl)
              have hl : arun P (Builtin.lenOf x) h = some (0, h) := by
                unfold noneOf at hs
                split at hs
                · rfl
                · rfl
                · cases hs
              have hf : arun P (Builtin.firstCells i.size 0 x) h = some (#[], h) := by
                unfold noneOf at hs
                split at hs
                · rfl
                · unfold Builtin.firstCells loadCells
                  simp only [Nat.zero_mul]
                  rfl
                · cases hs
              unfold evR orEv
              rw [sp0_append ho hcal]
              simp only []
              unfold aop
              rw [hc]
              simp only [cond_true]
              rw [ho]
              simp only []
              rw [hcal]
              simp only []
              rw [hat, hargs]
              have hfit : fitA P t (.slice (some b) n0 c0) x h = some (.slice (some b) n0 c0, h) := by
                unfold fitA
                simp only [ht, hi, hl, Nat.add_zero]
                rw [show Nat.ble n0 c0 = true by rw [Nat.ble_eq]; exact b1]
                simp only [cond_true, hf]
                rfl
              unfold appendA
              simp only [hxt, hfit]
          · cases e
        · cases e
      · cases e
    · cases e
def apZeroRule : OpRule := ⟨apZeroRun, apZero_ok⟩

/-! ### a law's call -/

def callOut (m : Nat) : PO (AEnd × AH) → Option (Value × List Prop)
  | some ((.ret v, h1), ps) => cond (flatV v && Nat.beq (Nat.land h1.wr (2 ^ m - 1)) 0) (some (v, ps)) none
  | _ => none
theorem call_came (hz : zerosFlat P = true) (hm : P.follows .mixedOrders = true) {H : Hints} (hH : H.Ok P 0) {k m : Nat} {g : FuncId} {args args' : List Value} {h0 : AH} {v : Value} {ps : List Prop} {e : TypeId} {rows : List (List Value × Addr)}
    (er : callOut m ((runHR P 0 H k).2 g args h0) = some (v, ps)) (hp : All ps) (wf : WF h0) (hn : h0.n = m) (hl : rows.length = m) (hg : ∀ id, id < m → h0.get id = cameG e rows id)
    {w : World} (hr : ∀ r ∈ rows, Came w r.1 r.2) (hargs : VL (cameK P w e rows) args args') :
    Calls P g ⟨args'⟩ w fun en w' => en = .returned v ∧ Below w.heap.size w w' := by
  unfold callOut at er
  split at er
  · rename_i v0 h1 qs he
    cases hc : (flatV v0 && Nat.beq (Nat.land h1.wr (2 ^ m - 1)) 0) with
    | false => rw [hc] at er; cases er
    | true =>
      rw [hc] at er
      cases er
      simp only [Bool.and_eq_true] at hc
      subst hl
      exact CTup.came (runHR_call hz hm hH he hp) wf hn hg (fun id hid => low_of hc.2 id hid) hc.1 hr hargs
  · cases er
/-- Heaps of one, of two views. -/
def cameH2 (cs ms : List Value) (e : TypeId) : AH := ⟨T.set 24 (T.set 24 .nil 0 (some (.cells cs e 1 0 false false))) 1 (some (.cells ms e 1 0 false false)), 2, 0, 0⟩
theorem cameH2_get (cs ms : List Value) (e : TypeId) (a b : Addr) (id : Nat) (h : id < 2) : (cameH2 cs ms e).get id = cameG e [(cs, a), (ms, b)] id := by
  rcases (by omega : id = 0 ∨ id = 1) with rfl | rfl <;> rfl
theorem cameH2_wf (cs ms : List Value) (e : TypeId) : WF (cameH2 cs ms e) := by
  refine ⟨fun id o h => ?_, fun id h => ?_⟩
  · have e2 := T.get_set 24 (T.set 24 (T.nil : T AObj) 0 (some (.cells cs e 1 0 false false))) 1 (some (.cells ms e 1 0 false false)) id (by decide)
    have e3 := T.get_set 24 (T.nil : T AObj) 0 (some (.cells cs e 1 0 false false)) id (by decide)
    have h' : (T.set 24 (T.set 24 (T.nil : T AObj) 0 (some (.cells cs e 1 0 false false))) 1 (some (.cells ms e 1 0 false false))).get id = some o := h
    rw [e2] at h'
    show id < 2
    by_cases h1 : id = 1
    · omega
    · rw [if_neg h1, e3] at h'
      by_cases h0 : id = 0
      · omega
      · rw [if_neg h0] at h'; cases h'
  · have h' : (0 : Nat).testBit id = true := h
    simp at h'
theorem cameH_get (cs : List Value) (e : TypeId) (a : Addr) (id : Nat) (h : id < 1) : (cameH cs e).get id = cameG e [(cs, a)] id := by
  obtain rfl : id = 0 := by omega
  rfl
end
end Go.Ev
namespace Go.Ev
open Go Go.RowKit

/-! ### heaps as lists -/

def objAt : List (Option AObj) → Nat → Option AObj
  | [], _ => none
  | o :: _, 0 => o
  | _ :: l, i + 1 => objAt l i
def hpT : List (Option AObj) → Nat → T AObj → T AObj
  | [], _, t => t
  | o :: l, i, t => hpT l (i + 1) (T.set 24 t i o)
/-- A heap of so many blocks. -/
def hpOf (obj : List (Option AObj)) : AH := ⟨hpT obj 0 .nil, obj.length, 0, 0⟩
def BIG : Nat := 16777000
theorem hpT_get : ∀ (l : List (Option AObj)) (i : Nat) (t : T AObj) (j : Nat), i + l.length ≤ BIG → (hpT l i t).get j = if i ≤ j ∧ j < i + l.length then objAt l (j - i) else t.get j
  | [], i, t, j, _ => by
    unfold hpT
    rw [if_neg (by simp)]
  | o :: l, i, t, j, hb => by
    have hb' : i + (l.length + 1) ≤ BIG := hb
    unfold hpT
    rw [hpT_get l (i + 1) _ j (by omega)]
    have hi : i + 1 < 2 ^ 24 := by
      have : (2 : Nat) ^ 24 = 16777216 := by decide
      unfold BIG at hb'
      omega
    by_cases h1 : i + 1 ≤ j ∧ j < i + 1 + l.length
    · rw [if_pos h1, if_pos ⟨by omega, by rw [List.length_cons]; omega⟩]
      have : j - i = (j - (i + 1)) + 1 := by omega
      rw [this]
      rfl
    · rw [if_neg h1, T.get_set 24 t i o j hi]
      by_cases h2 : j = i
      · subst h2
        rw [if_pos rfl, if_pos ⟨Nat.le_refl _, by rw [List.length_cons]; omega⟩, Nat.sub_self]
        rfl
      · rw [if_neg h2, if_neg (by rw [List.length_cons]; omega)]
theorem hpOf_get {obj : List (Option AObj)} (hb : obj.length ≤ BIG) (id : Nat) : (hpOf obj).get id = if id < obj.length then objAt obj id else none := by
  show (hpT obj 0 .nil).get id = _
  rw [hpT_get obj 0 .nil id (by omega)]
  by_cases h : id < obj.length
  · rw [if_pos ⟨Nat.zero_le _, by omega⟩, if_pos h, Nat.sub_zero]
  · rw [if_neg (by omega), if_neg h]; rfl
theorem hpOf_wf {obj : List (Option AObj)} (hb : obj.length ≤ BIG) : WF (hpOf obj) := by
  refine ⟨fun id o h => ?_, fun id h => ?_⟩
  · rw [hpOf_get hb] at h
    show id < obj.length
    by_cases h1 : id < obj.length
    · exact h1
    · rw [if_neg h1] at h; cases h
  · have h' : (0 : Nat).testBit id = true := h
    simp at h'

section
variable {P : Program}

/-! ### where a run stands -/

structure Sit (P : Program) (m : Nat) (W : World) (N : Nat) (live : List (Nat × Value)) (obj : List (Option AObj)) (a : Act) (w : World) (κ : K) (G : Nat → Option AObj) (f : Fr) : Prop where
  rel : Rel P κ G w
  fr : FrR κ f a
  n : f.n = N
  ds : f.ds = []
  df : a.defers = []
  holds : Holds f live
  full : ∀ id, id < obj.length → G id = objAt obj id
  free : ∀ id, obj.length ≤ id → id < BIG → G id = none ∧ κ id = none
  own : ∀ id b, κ id = some b → m ≤ id → W.heap.size ≤ b.blk
  below : Below W.heap.size W w
/-- 'm' rows came in with the call, at the world 'W'; the slots 'live' count; the heap holds 'obj'. -/
def Here (P : Program) (m : Nat) (W : World) (N : Nat) (live : List (Nat × Value)) (obj : List (Option AObj)) (a : Act) (w : World) : Prop := ∃ κ G f, Sit P m W N live obj a w κ G f
abbrev WPost := Exit → Act → World → Prop
abbrev codeW (P : Program) (c : Code) : WPost → Act → World → Prop := fun Q a w => c.wp P Q a w
/-- A piece of code that is told at the listed heap. -/
def Seg (P : Program) (m N : Nat) (F : WPost → Act → World → Prop) (live : List (Nat × Value)) (obj : List (Option AObj)) (ex : AExit) (live1 : List (Nat × Value)) (obj1 : List (Option AObj)) : Prop :=
  ∀ f, f.n = N → f.ds = [] → Holds f live → ∃ f1 h1, Tup P 0 f (hpOf obj) ex f1 h1 F ∧ f1.ds = [] ∧ Holds f1 live1 ∧ h1.n = obj1.length ∧ (∀ id, id < obj1.length → h1.get id = objAt obj1 id) ∧ (∀ id, id < m → h1.wr.testBit id = false)
theorem Here.seg {m N : Nat} {W : World} {live live1 : List (Nat × Value)} {obj obj1 : List (Option AObj)} {F : WPost → Act → World → Prop} {ex : AExit} {ee : Exit} {a : Act} {w : World} {Q : WPost} (hN : small N = true)
    (t : Seg P m N F live obj ex live1 obj1) (hex : ∀ κ e, ExR κ ex e → e = ee) (hb0 : obj.length ≤ BIG) (hb : obj1.length ≤ BIG)
    (hs : Here P m W N live obj a w) (hq : ∀ a' w', Here P m W N live1 obj1 a' w' → Q ee a' w') : F Q a w := by
  obtain ⟨κ, G, f, s⟩ := hs
  obtain ⟨f1, h1, tt, ds1, hl1, hn1, hg1, hw1⟩ := t f s.n s.ds s.holds
  obtain ⟨⟨x, wf1, hnn⟩, sem⟩ := tt (hpOf_wf hb0) (by rw [s.n]; exact hN)
  have hn0 : (hpOf obj).n = obj.length := rfl
  have hget : ∀ id, id < obj.length → (hpOf obj).get id = objAt obj id := fun id hid => by rw [hpOf_get hb0, if_pos hid]
  have hle : obj.length ≤ obj1.length := by have := x.n; rw [hn0, hn1] at this; exact this
  refine sem κ G a w 0 Q (fun g hg => absurd hg (Nat.not_lt_zero _)) s.rel s.fr (by rw [s.ds, s.df]; exact .nil) (Nat.zero_le _) (fun id hid _ => by rw [s.full id hid, hget id hid]) (fun id hid hid' => s.free id hid (by rw [hn1] at hid'; omega)) fun κ' ex' a' w' q0 q1 q2 q3 q4 => ?_
  have := hex _ _ q0
  subst this
  have hdf : a'.defers = [] := by
    rw [ds1] at q3
    generalize a'.defers = dd at q3
    cases q3
    rfl
  refine hq a' w' ⟨κ', _, f1, q1, q2, hnn.trans s.n, ds1, hdf, hl1, fun id hid => ?_, fun id hid hid' => ?_, fun id b hb hid => ?_, ?_⟩
  · unfold merge
    by_cases hc : ((hpOf obj).n ≤ id ∧ id < h1.n) ∨ h1.wr.testBit id = true
    · rw [if_pos hc]; exact hg1 id hid
    · rw [if_neg hc]
      simp only [not_or, Bool.not_eq_true] at hc
      have hlt : id < obj.length := by
        rcases Nat.lt_or_ge id obj.length with h | h
        · exact h
        · exact absurd ⟨h, by rw [hn1]; exact hid⟩ hc.1
      rw [s.full id hlt, ← hget id hlt, ← x.same id hlt hc.2]
      exact hg1 id hid
  · unfold merge
    have hwr : h1.wr.testBit id = false := by
      cases hq : h1.wr.testBit id with
      | false => rfl
      | true => have := wf1.wr id hq; rw [hn1] at this; omega
    rw [if_neg (by rw [hn1]; simp [hwr]; omega), q4.dom id (by rw [hn1]; omega)]
    exact s.free id (by omega) hid'
  · rcases q4.new id b hb with h | h | ⟨i, c, h1', h2, h3⟩
    · exact s.own id b h hid
    · exact Nat.le_trans s.below.size h
    · have him : m ≤ i := by
        rcases Nat.lt_or_ge i m with q | q
        · rw [hw1 i q] at h3; cases h3
        · exact q
      rw [← h2]
      exact s.own i c h1' him
  · have hb := s.below
    refine ⟨q4.same.os.trans hb.os, q4.same.tape.trans hb.tape, q4.same.output.trans hb.output, Nat.le_trans hb.size q4.same.size, fun k hk => ?_⟩
    rw [← hb.block k hk]
    refine q4.keep k (Nat.lt_of_lt_of_le hk hb.size) fun id b hb' hbk => ?_
    rcases Nat.lt_or_ge id m with q | q
    · exact hw1 id q
    · have := s.own id b hb' q
      omega
theorem ExR.normal_only {κ : K} {e : Exit} (h : ExR κ .normal e) : e = .normal := by cases h; rfl
theorem ExR.exit_only {id : Nat} {κ : K} {e : Exit} (h : ExR κ (.exit id) e) : e = .exit id := by cases h; rfl
theorem ExR.ret_only {κ : K} {e : Exit} (h : ExR κ .ret e) : e = .ret := by cases h; rfl

/-! ### a run as a piece -/

theorem holds_zip (f : Fr) : ∀ slots : List Nat, Holds f (slots.zip (slots.map f.get))
  | [] => trivial
  | _ :: l => ⟨rfl, holds_zip f l⟩
theorem objAt_map {h0 : AH} : ∀ (l : List Nat) (i : Nat) {j : Nat}, l[i]? = some j → objAt (l.map h0.get) i = h0.get j
  | [], i, j, hj => by simp at hj
  | x :: l, 0, j, hj => by simp at hj; subst hj; rfl
  | x :: l, i + 1, j, hj => by simp at hj; exact objAt_map l i hj
/-- From a run that ends to a piece. -/
theorem seg_of {m N : Nat} (hN : small N = true) {F : WPost → Act → World → Prop} {live : List (Nat × Value)} {obj obj1 : List (Option AObj)} {ex : AExit} {slots ids : List Nat} {vs : List Value} {n1 rd1 wr1 : Nat} {ps : List Prop} {run : Fr → PO (AExit × Fr × AH)}
    (hrun : ∀ f f0 h0 qs, run f = some ((ex, f0, h0), qs) → All qs → Tup P 0 (canonF N live f) (hpOf obj) ex f0 h0 F)
    (hstart : ∀ {f g : Fr} {h : AH} {ex : AExit} {f' : Fr} {h' : AH}, FrEq f g → Tup P 0 g h ex f' h' F → Tup P 0 f h ex f' h' F)
    (er : ∀ f, roundOutH slots ids (run f) = some (ex, vs, N, (n1, rd1, wr1), obj1, ps)) (hp : All ps) (hids : ids = List.range n1) (hn1 : obj1.length = n1) (hw : Nat.beq (Nat.land wr1 (2 ^ m - 1)) 0 = true) :
    Seg P m N F live obj ex (slots.zip vs) obj1 := by
  intro f hn hd hl
  have er := er f
  unfold roundOutH at er
  split at er
  · rename_i ex0 f0 h0 qs he
    split at er
    · rename_i hds
      simp only [Option.some.injEq, Prod.mk.injEq] at er
      obtain ⟨rfl, rfl, hf0, ⟨hh1, hh2, hh3⟩, rfl, rfl⟩ := er
      refine ⟨f0, h0, hstart (canonF_eq hN hn hd hl) (hrun f f0 h0 _ he hp), hds, holds_zip f0 slots, by rw [hn1, hh1], fun id hid => ?_, fun id hid => by rw [hh3]; exact low_of hw id hid⟩
      refine (objAt_map ids id ?_).symm
      rw [hids, List.getElem?_range (by rw [hn1] at hid; exact hid)]
    · cases er
  · cases er
theorem tup_start {F : WPost → Act → World → Prop} {f g : Fr} {h : AH} {ex : AExit} {f' : Fr} {h' : AH} (e : FrEq f g) (t : Tup P 0 g h ex f' h' F) : Tup P 0 f h ex f' h' F := by
  intro wf hs
  obtain ⟨x, s⟩ := t wf (by rw [← e.n]; exact hs)
  refine ⟨⟨x.1, x.2.1, by rw [x.2.2, e.n]⟩, fun κ G a w n0 Q hg hrel hfr hdf hn0 hag hfs hq => ?_⟩
  exact s κ G a w n0 Q hg hrel (e.rel hfr) (by rw [← e.ds]; exact hdf) hn0 hag hfs hq
theorem seg_run (hz : zerosFlat P = true) (hmix : P.follows .mixedOrders = true) {H : Hints} (hH : H.Ok P 0) {k m N : Nat} (hN : small N = true) {g : FuncId} {c : Code} {live : List (Nat × Value)} {obj obj1 : List (Option AObj)} {ex : AExit} {slots ids : List Nat} {vs : List Value} {n1 rd1 wr1 : Nat} {ps : List Prop}
    (er : ∀ f, roundOutH slots ids ((runHR P 0 H k).1 g c (canonF N live f) (hpOf obj)) = some (ex, vs, N, (n1, rd1, wr1), obj1, ps)) (hp : All ps) (hids : ids = List.range n1) (hn1 : obj1.length = n1) (hw : Nat.beq (Nat.land wr1 (2 ^ m - 1)) 0 = true) :
    Seg P m N (codeW P c) live obj ex (slots.zip vs) obj1 :=
  seg_of hN (fun _ _ _ _ he hq => runHR_code hz hmix hH he hq) tup_start er hp hids hn1 hw

/-! ### the first pieces of a row of pieces -/

def splitSeq : Nat → Code → Option (Code × Code)
  | 0, .seq a b => some (a, b)
  | n + 1, .seq a b => match splitSeq n b with
    | some (p, r) => some (.seq a p, r)
    | none => none
  | _, _ => none
abbrev thenW (P : Program) (c r : Code) : WPost → Act → World → Prop := fun Q a w => ∀ Q0 : WPost, (∀ a1 w1, Q .normal a1 w1 → r.wp P Q0 a1 w1) → c.wp P Q0 a w
theorem run_split (hz : zerosFlat P = true) (hmix : P.follows .mixedOrders = true) {H : Hints} (hH : H.Ok P 0) {cur : FuncId} : ∀ (n k : Nat) (c p r : Code) (f : Fr) (h : AH) (f1 : Fr) (h1 : AH) (ps : List Prop),
    splitSeq n c = some (p, r) → (runHR P 0 H k).1 cur p f h = some ((.normal, f1, h1), ps) → All ps → Tup P 0 f h .normal f1 h1 (thenW P c r)
  | 0, k, c, p, r, f, h, f1, h1, ps, hs, he, hp => by
    unfold splitSeq at hs
    split at hs
    · rename_i a b heq
      cases hs
      have t := runHR_code hz hmix hH he hp
      intro wf hsm
      obtain ⟨x, s⟩ := t wf hsm
      refine ⟨x, fun κ G a w n0 Q hg hrel hfr hdf hn0 hag hfs hq Q0 hr => wp_seq ?_⟩
      refine s κ G a w n0 _ hg hrel hfr hdf hn0 hag hfs fun κ1 ex1 a1 w1 q0 q1 q2 q3 q4 => ?_
      cases q0
      exact hr a1 w1 (hq κ1 .normal a1 w1 .normal q1 q2 q3 q4)
    · rename_i heq; cases heq
    · cases hs
  | n + 1, k, c, p, r, f, h, f1, h1, ps, hs, he, hp => by
    unfold splitSeq at hs
    split at hs
    · rename_i heq; cases heq
    · rename_i n' a b heq
      obtain rfl : n = n' := by omega
      split at hs
      · rename_i p' r' hs'
        cases hs
        cases k with
        | zero => cases he
        | succ k =>
          have he' : (match (runHR P 0 H k).1 cur a f h with
            | some ((.normal, f1, h1), ps) => match (runHR P 0 H k).1 cur p' f1 h1 with
              | some (r, qs) => some (r, ps ++ qs)
              | none => none
            | r => r) = some ((.normal, f1, h1), ps) := he
          cases hra : (runHR P 0 H k).1 cur a f h with
          | none => rw [hra] at he'; cases he'
          | some y =>
            obtain ⟨⟨ex2, f2, h2⟩, qs2⟩ := y
            rw [hra] at he'
            cases ex2 <;> first
              | (simp only [Option.some.injEq, Prod.mk.injEq] at he'; obtain ⟨⟨e1, _⟩, _⟩ := he'; cases e1; done)
              | skip
            simp only [] at he'
            cases hrp : (runHR P 0 H k).1 cur p' f2 h2 with
            | none => rw [hrp] at he'; cases he'
            | some z =>
              obtain ⟨z1, qs3⟩ := z
              rw [hrp] at he'
              cases he'
              have t1 := runHR_code hz hmix hH hra hp.left
              have t2 := run_split hz hmix hH n k b p' r f2 h2 f1 h1 qs3 hs' hrp hp.right
              intro wf hsm
              obtain ⟨⟨x1, wf1, hn1⟩, s1⟩ := t1 wf hsm
              obtain ⟨⟨x2, wf2, hn2⟩, s2⟩ := t2 wf1 (by rw [hn1]; exact hsm)
              refine ⟨⟨x1.trans x2, wf2, hn2.trans hn1⟩, fun κ G a w n0 Q hg hrel hfr hdf hn0 hag hfs hq Q0 hr => wp_seq ?_⟩
              refine s1 κ G a w n0 _ hg hrel hfr hdf hn0 (hag.left x2) (hfs.left x2) fun κ1 ex1 a1 w1 q0 q1 q2 q3 q4 => ?_
              cases q0
              refine s2 κ1 _ a1 w1 n0 Q (hg.mono q4.le) q1 q2 q3 (Nat.le_trans hn0 (step_kx q4)) (hag.right x1) (hfs.right x1 q4 fun id _ hw => wf1.wr id hw) (fun κ2 ex2 a2 w2 r0 r1 r2 r3 r4 => ?_) Q0 hr
              exact hq κ2 ex2 a2 w2 r0 (by rw [merge_merge x1 x2] at r1; exact r1) r2 r3 (q4.trans x1 x2 r4)
      · cases hs
    · cases hs
theorem seg_split (hz : zerosFlat P = true) (hmix : P.follows .mixedOrders = true) {H : Hints} (hH : H.Ok P 0) {k m N n : Nat} (hN : small N = true) {g : FuncId} {c p r : Code} (hs : splitSeq n c = some (p, r)) {live : List (Nat × Value)} {obj obj1 : List (Option AObj)} {slots ids : List Nat} {vs : List Value} {n1 rd1 wr1 : Nat} {ps : List Prop}
    (er : ∀ f, roundOutH slots ids ((runHR P 0 H k).1 g p (canonF N live f) (hpOf obj)) = some (.normal, vs, N, (n1, rd1, wr1), obj1, ps)) (hp : All ps) (hids : ids = List.range n1) (hn1 : obj1.length = n1) (hw : Nat.beq (Nat.land wr1 (2 ^ m - 1)) 0 = true) :
    Seg P m N (thenW P c r) live obj .normal (slots.zip vs) obj1 :=
  seg_of hN (fun _ f0 h0 qs he hq => run_split hz hmix hH n k c p r _ _ f0 h0 qs hs he hq) tup_start er hp hids hn1 hw
end
end Go.Ev
namespace Go.Ev
open Go Go.RowKit

section
variable {P : Program}

/-! ### other numbers -/

def findIx (b : Nat) : List Nat → Nat → Option Nat
  | [], _ => none
  | x :: l, i => cond (Nat.beq x b) (some i) (findIx b l (i + 1))
theorem findIx_at {b : Nat} : ∀ {l : List Nat} {i j : Nat}, findIx b l i = some j → i ≤ j ∧ l[j - i]? = some b
  | [], _, _, h => by cases h
  | x :: l, i, j, h => by
    unfold findIx at h
    cases hx : Nat.beq x b with
    | true =>
      rw [hx] at h; cases h
      rw [beq_eq, decide_eq_true_eq] at hx
      subst hx
      exact ⟨Nat.le_refl _, by simp⟩
    | false =>
      rw [hx] at h
      obtain ⟨h1, h2⟩ := findIx_at h
      refine ⟨by omega, ?_⟩
      have : j - i = (j - (i + 1)) + 1 := by omega
      rw [this]
      exact h2
/-- A value under other numbers: 'ρ' tells for each new number the old one. -/
def mvV (ρ : List Nat) (v : Value) : Option Value :=
  match v with
  | .slice (some a) n c => match a.spot, findIx a.block ρ 0 with
    | none, some j => some (.slice (some ⟨j, a.off, none⟩) n c)
    | _, _ => none
  | .pointer (some a) => match a.spot, findIx a.block ρ 0 with
    | none, some j => some (.pointer (some ⟨j, a.off, none⟩))
    | _, _ => none
  | v => cond (flatV v) (some v) none
theorem mvV_ok {ρ : List Nat} {κ1 κ2 : K} (hκ : ∀ j r, ρ[j]? = some r → κ2 j = κ1 r) {v1 v2 v' : Value} (h : mvV ρ v1 = some v2) (hv : VR κ1 v1 v') : VR κ2 v2 v' := by
  unfold mvV at h
  split at h
  · rename_i a n c
    split at h
    · rename_i j hs hj
      cases h
      obtain ⟨_, hj2⟩ := findIx_at hj
      cases hv with
      | slice hsl =>
        obtain ⟨q1, q2, b, q3, q4, q5⟩ := hsl
        exact .slice ⟨rfl, q2, b, by rw [hκ j a.block (by simpa using hj2)]; exact q3, q4, q5⟩
    · cases h
  · rename_i a
    split at h
    · rename_i j hs hj
      cases h
      obtain ⟨_, hj2⟩ := findIx_at hj
      cases hv with
      | ptr ha =>
        obtain ⟨q1, b, q2, q3⟩ := ha
        exact .ptr ⟨rfl, b, by rw [hκ j a.block (by simpa using hj2)]; exact q2, q3⟩
    · cases h
  · cases hf : flatV v1 with
    | false => rw [hf] at h; cases h
    | true =>
      rw [hf] at h
      cases h
      rw [VR.eq_of_flat hv hf]
      exact VR.flat _ hf
def mvL (ρ : List Nat) : List (Nat × Value) → Option (List (Nat × Value))
  | [] => some []
  | (s, v) :: l => match mvV ρ v, mvL ρ l with
    | some v', some l' => some ((s, v') :: l')
    | _, _ => none
def flatO : Option AObj → Bool
  | none => true
  | some (.cells c _ _ _ _ _) => flatL c
  | some (.obj _) => false
mutual
theorem VR.pre {κ1 κ2 : K} (hc : ∀ id b, κ1 id = some b → ∃ id2, κ2 id2 = some b) : ∀ {v v' : Value}, VR κ1 v v' → ∃ v2, VR κ2 v2 v'
  | _, _, .bool b => ⟨_, .bool b⟩
  | _, _, .int k n => ⟨_, .int k n⟩
  | _, _, .float k n => ⟨_, .float k n⟩
  | _, _, .complex k n m => ⟨_, .complex k n m⟩
  | _, _, .string s => ⟨_, .string s⟩
  | _, _, .ptrNil => ⟨_, .ptrNil⟩
  | _, _, .ptr (a := a) ha => by
    obtain ⟨q1, b, q2, q3⟩ := ha
    obtain ⟨j, hj⟩ := hc _ _ q2
    exact ⟨_, .ptr (a := ⟨j, a.off, none⟩) ⟨rfl, b, hj, q3⟩⟩
  | _, _, .sliceNil n c => ⟨_, .sliceNil n c⟩
  | _, _, .slice (a := a) (n := n) (c := c) hs => by
    obtain ⟨q1, q2, b, q3, q4, q5⟩ := hs
    obtain ⟨j, hj⟩ := hc _ _ q3
    exact ⟨_, .slice (a := ⟨j, a.off, none⟩) (n := n) (c := c) ⟨rfl, q2, b, hj, q4, q5⟩⟩
  | _, _, .mapNil => ⟨_, .mapNil⟩
  | _, _, .map h => by
    obtain ⟨j, hj⟩ := hc _ _ h
    exact ⟨_, .map hj⟩
  | _, _, .chanNil => ⟨_, .chanNil⟩
  | _, _, .func hy h1 h2 => by
    obtain ⟨l1, g1⟩ := VL.pre hc h1
    obtain ⟨l2, g2⟩ := VL.pre hc h2
    exact ⟨_, .func hy g1 g2⟩
  | _, _, .yield l => ⟨_, .yield l⟩
  | _, _, .nilFunc => ⟨_, .nilFunc⟩
  | _, _, .iface h => by
    obtain ⟨v2, g⟩ := VR.pre hc h
    exact ⟨_, .iface g⟩
  | _, _, .nilIface => ⟨_, .nilIface⟩
  | _, _, .agg h => by
    obtain ⟨l, g⟩ := VL.pre hc h
    exact ⟨_, .agg g⟩
  | _, _, .tuple h => by
    obtain ⟨l, g⟩ := VL.pre hc h
    exact ⟨_, .tuple g⟩
theorem VL.pre {κ1 κ2 : K} (hc : ∀ id b, κ1 id = some b → ∃ id2, κ2 id2 = some b) : ∀ {l l' : List Value}, VL κ1 l l' → ∃ l2, VL κ2 l2 l'
  | _, _, .nil => ⟨[], .nil⟩
  | _, _, .cons h1 h2 => by
    obtain ⟨v, g1⟩ := VR.pre hc h1
    obtain ⟨l, g2⟩ := VL.pre hc h2
    exact ⟨_, .cons g1 g2⟩
end
/-- A frame by what its slots hold. -/
def frOf (N : Nat) (g : Nat → Value) : Fr := { t := ofArgs ((List.range N).map g) 0 .nil, n := N }
theorem frOf_get {N : Nat} (hN : small N = true) (g : Nat → Value) (i : Nat) : (frOf N g).get i = if i < N then g i else undef := by
  show ((ofArgs ((List.range N).map g) 0 .nil).get i).getD undef = _
  have := ofArgs_get ((List.range N).map g) 0 .nil N hN (by simp) i
  rw [this]
  simp only [Nat.zero_le, true_and, Nat.zero_add, List.length_map, List.length_range, Nat.sub_zero]
  by_cases hi : i < N
  · rw [if_pos hi, if_pos hi]; simp [hi]
  · rw [if_neg hi, if_neg hi]; rfl
def keysOk (N : Nat) (live : List (Nat × Value)) : Bool := (live.map (·.1)).all (fun i => Nat.blt i N) && decide (live.map (·.1)).Nodup
theorem lk_mem {s : Nat} {v : Value} : ∀ {l : List (Nat × Value)}, (l.map (·.1)).Nodup → (s, v) ∈ l → lk l s = some v
  | [], _, h => by cases h
  | (j, x) :: l, hn, h => by
    simp only [List.map_cons, List.nodup_cons] at hn
    unfold lk
    rcases List.mem_cons.1 h with h1 | h1
    · cases h1
      rw [show Nat.beq s s = true by rw [beq_eq]; simp]; rfl
    · have hne : s ≠ j := fun e => hn.1 (by rw [← e]; exact List.mem_map.2 ⟨(s, v), h1, rfl⟩)
      rw [show Nat.beq s j = false by rw [beq_eq]; simpa using hne]
      exact lk_mem hn.2 h1
theorem holds_of {f : Fr} : ∀ {l : List (Nat × Value)}, (∀ x ∈ l, f.get x.1 = x.2) → Holds f l
  | [], _ => trivial
  | (j, v) :: l, h => ⟨h (j, v) (by simp), holds_of fun x hx => h x (by simp [hx])⟩
theorem holds_mem {f : Fr} {x : Nat × Value} : ∀ {l : List (Nat × Value)}, Holds f l → x ∈ l → f.get x.1 = x.2
  | [], _, h => by cases h
  | (j, v) :: l, hl, h => by
    rcases List.mem_cons.1 h with rfl | h
    · exact hl.1
    · exact holds_mem hl.2 h
theorem mvL_mem {ρ : List Nat} : ∀ {l l2 : List (Nat × Value)}, mvL ρ l = some l2 → ∀ x ∈ l2, ∃ v1, (x.1, v1) ∈ l ∧ mvV ρ v1 = some x.2
  | [], l2, h, x, hx => by cases h; cases hx
  | (s, v) :: l, l2, h, x, hx => by
    unfold mvL at h
    split at h
    · rename_i v' l' hv hl
      cases h
      rcases List.mem_cons.1 hx with rfl | hx
      · exact ⟨v, by simp, hv⟩
      · obtain ⟨v1, g1, g2⟩ := mvL_mem hl x hx
        exact ⟨v1, by simp [g1], g2⟩
    · cases h
def rhoOk (m top : Nat) (ρ : List Nat) : Bool := decide ρ.Nodup && Nat.ble m ρ.length && (List.range m).all (fun i => ρ[i]? == some i) && ρ.all (fun r => Nat.blt r top)
theorem Here.move {m N : Nat} {W : World} {live live2 : List (Nat × Value)} {obj obj2 : List (Option AObj)} {a : Act} {w : World} (ρ : List Nat) (hN : small N = true) (hb : ρ.length ≤ BIG)
    (hρ : rhoOk m obj.length ρ = true) (hobj : obj2 = ρ.map (objAt obj)) (hf : obj2.all flatO = true) (hl : mvL ρ live = some live2) (hk : keysOk N live2 = true) (hs : Here P m W N live obj a w) : Here P m W N live2 obj2 a w := by
  obtain ⟨κ, G, f, s⟩ := hs
  simp only [rhoOk, Bool.and_eq_true, decide_eq_true_eq, Nat.ble_eq, List.all_eq_true, Nat.blt_eq] at hρ
  obtain ⟨⟨⟨hnd, hm⟩, hid0⟩, htop⟩ := hρ
  simp only [keysOk, Bool.and_eq_true, decide_eq_true_eq, List.all_eq_true, Nat.blt_eq] at hk
  have hidm : ∀ i, i < m → ρ[i]? = some i := fun i hi => by simpa using hid0 i (List.mem_range.2 hi)
  have hlen : obj2.length = ρ.length := by rw [hobj]; simp
  have hat : ∀ j r, ρ[j]? = some r → objAt obj2 j = objAt obj r := by
    rw [hobj]
    have : ∀ (l : List Nat) (j r : Nat), l[j]? = some r → objAt (l.map (objAt obj)) j = objAt obj r := by
      intro l
      induction l with
      | nil => intro j r h; simp at h
      | cons x l ih =>
        intro j r h
        cases j with
        | zero => simp at h; subst h; rfl
        | succ j => simp at h; exact ih j r h
    exact this ρ
  have hflat : ∀ j o, objAt obj2 j = some o → flatO (some o) = true := by
    have : ∀ (l : List (Option AObj)), l.all flatO = true → ∀ j o, objAt l j = some o → flatO (some o) = true := by
      intro l
      induction l with
      | nil => intro _ j o h; cases h
      | cons x l ih =>
        intro ha j o h
        simp only [List.all_cons, Bool.and_eq_true] at ha
        cases j with
        | zero => have h' : x = some o := h; rw [← h']; exact ha.1
        | succ j => exact ih ha.2 j o h
    exact this obj2 hf
  let κ2 : K := fun id => match ρ[id]? with
    | some r => κ r
    | none => if BIG + m ≤ id then κ (id - BIG) else none
  let G2 : Nat → Option AObj := fun id => if id < obj2.length then objAt obj2 id else none
  have hκ : ∀ j r, ρ[j]? = some r → κ2 j = κ r := fun j r h => by simp only [κ2, h]
  have hκ0 : ∀ id b, κ2 id = some b → (∃ r, ρ[id]? = some r ∧ κ r = some b) ∨ (ρ[id]? = none ∧ BIG + m ≤ id ∧ κ (id - BIG) = some b) := fun id b h => by
    simp only [κ2] at h
    split at h
    · rename_i r hr; exact .inl ⟨r, hr, h⟩
    · rename_i hr
      split at h
      · rename_i hB; exact .inr ⟨hr, hB, h⟩
      · cases h
  have hcov : ∀ id b, κ id = some b → ∃ id2, κ2 id2 = some b := fun id b h => by
    rcases Nat.lt_or_ge id m with q | q
    · exact ⟨id, by rw [hκ id id (hidm id q)]; exact h⟩
    · refine ⟨BIG + id, ?_⟩
      have : ρ[BIG + id]? = none := List.getElem?_eq_none (by omega)
      have hle : BIG + m ≤ BIG + id := by omega
      simp only [κ2, this, hle, if_true, Nat.add_sub_cancel_left]
      exact h
  have hG2 : ∀ id o, G2 id = some o → ∃ r, ρ[id]? = some r ∧ objAt obj r = some o ∧ G r = some o := fun id o h => by
    simp only [G2] at h
    split at h
    · rename_i hid
      have hlt : id < ρ.length := by omega
      have hr : ρ[id]? = some ρ[id] := List.getElem?_eq_getElem hlt
      rw [hat id _ hr] at h
      exact ⟨_, hr, h, by rw [s.full _ (htop _ (List.getElem_mem hlt))]; exact h⟩
    · cases h
  have hrel : Rel P κ2 G2 w := by
    refine ⟨fun id o ho => ?_, fun id id' o o' b b' ho ho' hb' hb'' hblk hv => ?_, fun id b hb' => ?_⟩
    · obtain ⟨r, hr, h1, h2⟩ := hG2 id o ho
      obtain ⟨b, hb1, hin⟩ := s.rel.at_ r o h2
      refine ⟨b, by rw [hκ id r hr]; exact hb1, ?_⟩
      have hfo := hflat id o (by rw [hat id r hr]; exact h1)
      cases o with
      | cells c e lo hi ex st =>
        obtain ⟨q1, q2, q3, c', fz, q4, q5, q6, q7⟩ := hin
        refine ⟨q1, q2, q3, c', fz, q4, q5, fun i v hv => ?_, q7⟩
        obtain ⟨v', r1, r2⟩ := q6 i v hv
        refine ⟨v', r1, fun hone => ?_⟩
        have hfv : flatV v = true := flat_mem hfo (List.mem_of_getElem? hv)
        rw [VR.eq_of_flat (r2 hone) hfv]
        exact VR.flat v hfv
      | obj o => cases hfo
    · obtain ⟨r, hr, _, h2⟩ := hG2 id o ho
      obtain ⟨r', hr', _, h2'⟩ := hG2 id' o' ho'
      rw [hκ id r hr] at hb'
      rw [hκ id' r' hr'] at hb''
      have := s.rel.one r r' o o' b b' h2 h2' hb' hb'' hblk hv
      subst this
      obtain ⟨g1, g1'⟩ := List.getElem?_eq_some_iff.1 hr
      obtain ⟨g2, g2'⟩ := List.getElem?_eq_some_iff.1 hr'
      exact (List.getElem_inj hnd).1 (g1'.trans g2'.symm)
    · rcases hκ0 id b hb' with ⟨r, _, h⟩ | ⟨_, _, h⟩
      · exact s.rel.old r b h
      · exact s.rel.old _ b h
  have hpre : ∀ i, ∃ v2, VR κ2 v2 (a.tmps.getD i undef) := fun i => VR.pre hcov (s.fr.at_ i)
  let g : Nat → Value := fun i => (lk live2 i).getD (hpre i).choose
  have hlive : ∀ x ∈ live2, VR κ2 x.2 (a.tmps.getD x.1 undef) := fun x hx => by
    obtain ⟨v1, h1, h2⟩ := mvL_mem hl x hx
    have h3 := s.fr.at_ x.1
    rw [holds_mem s.holds h1] at h3
    exact mvV_ok hκ h2 h3
  have hg : ∀ i, VR κ2 (g i) (a.tmps.getD i undef) := fun i => by
    simp only [g]
    cases hlk : lk live2 i with
    | none => exact (hpre i).choose_spec
    | some v =>
      have : ∀ (l : List (Nat × Value)), lk l i = some v → (i, v) ∈ l := by
        intro l
        induction l with
        | nil => intro h; cases h
        | cons y l ih =>
          obtain ⟨j, x⟩ := y
          intro h
          unfold lk at h
          cases hb : Nat.beq i j with
          | true =>
            rw [hb] at h; cases h
            rw [beq_eq, decide_eq_true_eq] at hb
            subst hb; simp
          | false => rw [hb] at h; simp [ih h]
      exact hlive (i, v) (this live2 hlk)
  refine ⟨κ2, G2, frOf N g, hrel, ⟨by rw [s.fr.size, s.n]; rfl, fun i => ?_⟩, rfl, rfl, s.df, holds_of fun x hx => ?_, fun id hid => if_pos hid, fun id hid hid' => ⟨if_neg (by omega), ?_⟩, fun id b hb' hid => ?_, s.below⟩
  · rw [frOf_get hN]
    by_cases hi : i < N
    · rw [if_pos hi]; exact hg i
    · rw [if_neg hi]
      have : a.tmps.getD i undef = undef := by
        rw [Array.getD_eq_getD_getElem?, Array.getElem?_eq_none (by rw [s.fr.size, s.n]; omega)]; rfl
      rw [this]
      exact VR.flat _ undef_flat
  · have hkx := hk.1 x.1 (List.mem_map.2 ⟨x, hx, rfl⟩)
    rw [frOf_get hN, if_pos hkx]
    show (lk live2 x.1).getD _ = x.2
    rw [lk_mem hk.2 (show (x.1, x.2) ∈ live2 from hx)]
    rfl
  · have : ρ[id]? = none := List.getElem?_eq_none (by omega)
    simp only [κ2, this]
    rw [if_neg (by omega)]
  · rcases hκ0 id b hb' with ⟨r, hr, h⟩ | ⟨_, hB, h⟩
    · refine s.own r b h ?_
      rcases Nat.lt_or_ge r m with q | q
      · have h1 := hidm r q
        obtain ⟨g1, g1'⟩ := List.getElem?_eq_some_iff.1 h1
        obtain ⟨g2, g2'⟩ := List.getElem?_eq_some_iff.1 hr
        have : r = id := (List.getElem_inj (h₀ := g1) (h₁ := g2) hnd).1 (g1'.trans g2'.symm)
        omega
      · exact q
    · exact s.own _ b h (by omega)
theorem Here.drop {m N : Nat} {W : World} {live live2 : List (Nat × Value)} {obj : List (Option AObj)} {a : Act} {w : World} (hsub : ∀ x ∈ live2, x ∈ live) (hs : Here P m W N live obj a w) : Here P m W N live2 obj a w := by
  obtain ⟨κ, G, f, s⟩ := hs
  exact ⟨κ, G, f, s.rel, s.fr, s.n, s.ds, s.df, holds_of fun x hx => holds_mem s.holds (hsub x hx), s.full, s.free, s.own, s.below⟩

/-! ### loops -/

theorem Here.loop {D : Type} {m N id : Nat} {W : World} {body : Code} {live livef : D → List (Nat × Value)} {obj objf : D → List (Option AObj)} (μ : D → Nat) (I : D → Prop)
    (step : ∀ d a w, I d → Here P m W N (live d) (obj d) a w → body.wp P (fun e a' w' => (e = .normal ∧ ∃ d', I d' ∧ μ d' < μ d ∧ livef d' = livef d ∧ objf d' = objf d ∧ Here P m W N (live d') (obj d') a' w') ∨ (e = .exit id ∧ Here P m W N (livef d) (objf d) a' w')) a w)
    (d : D) (a : Act) (w : World) (Q : WPost) (hI : I d) (hs : Here P m W N (live d) (obj d) a w) (hq : ∀ a' w', Here P m W N (livef d) (objf d) a' w' → Q .normal a' w') : (Code.block id (.loop body)).wp P Q a w := by
  refine wp_block (wp_loop_rounds (μ d + 1) ?_)
  have key : ∀ k d a w, μ d < k → I d → Here P m W N (live d) (obj d) a w → (∀ a' w', Here P m W N (livef d) (objf d) a' w' → Q .normal a' w') → Code.rounds P body (Exit.inBlock id Q) k a w := by
    intro k
    induction k with
    | zero => intro d a w h; exact absurd h (Nat.not_lt_zero _)
    | succ k ih =>
      intro d a w hk hI hs hq
      rw [rounds_succ]
      refine wp_mono (step d a w hI hs) fun e a' w' he => ?_
      rcases he with ⟨rfl, d', hI', hμ, h1, h2, hs'⟩ | ⟨rfl, hs'⟩
      · exact ih d' a' w' (by omega) hI' hs' fun a2 w2 hh => hq a2 w2 (by rw [h1, h2] at hh; exact hh)
      · show if id = id then Q .normal a' w' else Q (.exit id) a' w'
        rw [if_pos rfl]
        exact hq a' w' hs'
  exact key _ d a w (Nat.lt_succ_self _) hI hs hq

/-- The same; what holds where the loop is left is any fact. -/
theorem Here.loopX {D : Type} {m N id : Nat} {W : World} {body : Code} {live : D → List (Nat × Value)} {obj : D → List (Option AObj)} (μ : D → Nat) (I : D → Prop) (X : Act → World → Prop)
    (step : ∀ d a w, I d → Here P m W N (live d) (obj d) a w → body.wp P (fun e a' w' => (e = .normal ∧ ∃ d', I d' ∧ μ d' < μ d ∧ Here P m W N (live d') (obj d') a' w') ∨ (e = .exit id ∧ X a' w')) a w)
    (d : D) (a : Act) (w : World) (Q : WPost) (hI : I d) (hs : Here P m W N (live d) (obj d) a w) (hq : ∀ a' w', X a' w' → Q .normal a' w') : (Code.block id (.loop body)).wp P Q a w := by
  refine wp_block (wp_loop_rounds (μ d + 1) ?_)
  have key : ∀ k d a w, μ d < k → I d → Here P m W N (live d) (obj d) a w → Code.rounds P body (Exit.inBlock id Q) k a w := by
    intro k
    induction k with
    | zero => intro d a w h; exact absurd h (Nat.not_lt_zero _)
    | succ k ih =>
      intro d a w hk hI hs
      rw [rounds_succ]
      refine wp_mono (step d a w hI hs) fun e a' w' he => ?_
      rcases he with ⟨rfl, d', hI', hμ, hs'⟩ | ⟨rfl, hs'⟩
      · exact ih d' a' w' (by omega) hI' hs'
      · show if id = id then Q .normal a' w' else Q (.exit id) a' w'
        rw [if_pos rfl]
        exact hq a' w' hs'
  exact key _ d a w (Nat.lt_succ_self _) hI hs

/-! ### in and out -/

def rowsObj (e : TypeId) (rows : List (List Value × Addr)) : List (Option AObj) := rows.map fun r => some (.cells r.1 e 1 0 false false)
theorem rowsObj_at {e : TypeId} : ∀ {rows : List (List Value × Addr)} (id : Nat), objAt (rowsObj e rows) id = cameG e rows id
  | [], id => rfl
  | r :: rows, 0 => rfl
  | r :: rows, id + 1 => by
    show objAt (rowsObj e rows) id = _
    rw [rowsObj_at id]
    unfold cameG
    rw [List.getElem?_cons_succ]
theorem here_start {m N : Nat} {W : World} {e : TypeId} {rows : List (List Value × Addr)} (hm : rows.length = m) (hr : ∀ r ∈ rows, Came W r.1 r.2) {args : List Value} {args' : Array Value} (hargs : VL (cameK P W e rows) args args'.toList)
    (k : Nat) (hk : args.length + (k - args.length) = N) (hN : small N = true) {live : List (Nat × Value)} (hl : Holds ({ t := ofArgs args 0 .nil, n := N } : Fr) live) :
    Here P m W N live (rowsObj e rows) { tmps := args' ++ Array.replicate (k - args'.size) undef, defers := [] } W := by
  subst hk
  have hlen : (rowsObj e rows).length = rows.length := by unfold rowsObj; simp
  have hout : ∀ id, rows.length ≤ id → rows[id]? = none := fun id h => List.getElem?_eq_none h
  refine ⟨cameK P W e rows, cameG e rows, _, came_rel hr, start_rel hargs k hN, rfl, rfl, rfl, hl, fun id _ => (rowsObj_at id).symm, fun id hid _ => ?_, fun id b hb hid => ?_, Below.refl _ _⟩
  · rw [hlen] at hid
    have := hout id hid
    exact ⟨by unfold cameG; rw [this]; rfl, by unfold cameK; rw [this]; rfl⟩
  · unfold cameK at hb
    rw [hout id (by omega)] at hb
    cases hb
/-- A law that answers with one Bool. -/
theorem here_calls {m N s : Nat} {W : World} {e : TypeId} {rows : List (List Value × Addr)} {g : FuncId} {fn : Func} {c : Code} {args : List Value} {args' : Array Value} {t : Bool} (hfn : P.funcs[g]? = some fn) (hb : fn.body = some c) (hres : fn.results = #[.tmp s])
    (hm : rows.length = m) (hr : ∀ r ∈ rows, Came W r.1 r.2) (hargs : VL (cameK P W e rows) args args'.toList) (hk : args.length + (fn.ntmps - args.length) = N) (hN : small N = true) {live : List (Nat × Value)} (hl : Holds ({ t := ofArgs args 0 .nil, n := N } : Fr) live)
    (hwp : ∀ a, Here P m W N live (rowsObj e rows) a W → c.wp P (fun ex a' w' => (ex = .ret ∨ ex = .normal) ∧ ∃ live' obj', (s, .bool t) ∈ live' ∧ Here P m W N live' obj' a' w') a W) :
    Calls P g args' W fun en w' => en = .returned (.bool t) ∧ Below W.heap.size W w' := by
  refine calls_of_wp hfn hb (wp_mono (hwp _ (here_start (e := e) hm hr hargs fn.ntmps hk hN hl)) fun ex a' w' he => ?_)
  obtain ⟨hex, live', obj', hmem, κ, G, f, s'⟩ := he
  have hv : a'.tmps.getD s undef = .bool t := by
    have h1 := s'.fr.at_ s
    rw [holds_mem s'.holds hmem] at h1
    exact VR.eq_of_flat h1 rfl
  have hrun : (results fn a'.tmps).run P w' = .ok (.bool t) w' := by
    unfold results
    rw [hres]
    rw [Array.getD_eq_getD_getElem?] at hv
    simp [hv]
  rcases hex with rfl | rfl
  · exact ⟨s'.df, _, hrun, rfl, s'.below⟩
  · exact ⟨s'.df, _, hrun, rfl, s'.below⟩
end
end Go.Ev
namespace Go.Ev
open Go Go.RowKit

section
variable {P : Program}
/-- A cell under other numbers; one that can't be told is given up. -/
def mvC (ρ : List Nat) (v : Value) : Value := (mvV ρ v).getD (.tuple #[])
def mvO (ρ : List Nat) : Option AObj → Option AObj
  | some (.cells c e lo hi ex st) => some (.cells (c.map (mvC ρ)) e lo hi ex st)
  | _ => none
def ObjOk (ρ : List Nat) (o1 o2 : Option AObj) : Prop := (o2 = o1 ∧ flatO o2 = true) ∨ o2 = mvO ρ o1
def ObjsOk (ρ : List Nat) (obj : List (Option AObj)) : List Nat → List (Option AObj) → Prop
  | [], [] => True
  | r :: l, o :: l2 => ObjOk ρ (objAt obj r) o ∧ ObjsOk ρ obj l l2
  | _, _ => False
theorem ObjsOk.len {ρ : List Nat} {obj : List (Option AObj)} : ∀ {l : List Nat} {l2 : List (Option AObj)}, ObjsOk ρ obj l l2 → l2.length = l.length
  | [], [], _ => rfl
  | _ :: _, _ :: _, h => by rw [List.length_cons, List.length_cons, ObjsOk.len h.2]
  | [], _ :: _, h => h.elim
  | _ :: _, [], h => h.elim
theorem ObjsOk.at_ {ρ : List Nat} {obj : List (Option AObj)} : ∀ {l : List Nat} {l2 : List (Option AObj)}, ObjsOk ρ obj l l2 → ∀ j r, l[j]? = some r → ObjOk ρ (objAt obj r) (objAt l2 j)
  | [], [], _, j, r, hj => by simp at hj
  | x :: l, o :: l2, h, 0, r, hj => by simp at hj; subst hj; exact h.1
  | x :: l, o :: l2, h, j + 1, r, hj => by simp at hj; exact ObjsOk.at_ h.2 j r hj
  | [], _ :: _, h, _, _, _ => h.elim
  | _ :: _, [], h, _, _, _ => h.elim
theorem objIn_mv {κ1 κ2 : K} {ρ : List Nat} (hκ : ∀ j r, ρ[j]? = some r → κ2 j = κ1 r) {o1 o2 : Option AObj} (h : ObjOk ρ o1 o2) {o : AObj} (ho : o2 = some o) : ∃ o', o1 = some o' ∧ (o'.view = true → o.view = true) ∧ ∀ b w, ObjIn P κ1 b w o' → ObjIn P κ2 b w o := by
  subst ho
  rcases h with ⟨h1, h2⟩ | h
  · refine ⟨o, h1.symm, fun h => h, fun b w hin => ?_⟩
    cases o with
    | obj o => cases h2
    | cells c e lo hi ex st =>
      obtain ⟨q1, q2, q3, c', fz, q4, q5, q6, q7⟩ := hin
      refine ⟨q1, q2, q3, c', fz, q4, q5, fun i v hv => ?_, q7⟩
      obtain ⟨v', r1, r2⟩ := q6 i v hv
      refine ⟨v', r1, fun hone => ?_⟩
      have hfv : flatV v = true := flat_mem h2 (List.mem_of_getElem? hv)
      rw [VR.eq_of_flat (r2 hone) hfv]
      exact VR.flat v hfv
  · cases o1 with
    | none => cases h
    | some o' =>
      cases o' with
      | obj x => cases h
      | cells c e lo hi ex st =>
        cases h
        refine ⟨_, rfl, fun h => h, fun b w hin => ?_⟩
        obtain ⟨q1, q2, q3, c', fz, q4, q5, q6, q7⟩ := hin
        refine ⟨q1, by simpa using q2, by simpa using q3, c', fz, q4, q5, fun i v hv => ?_, q7⟩
        rw [List.getElem?_map] at hv
        cases hc : c[i]? with
        | none => rw [hc] at hv; cases hv
        | some u =>
          rw [hc] at hv
          cases hv
          obtain ⟨v', r1, r2⟩ := q6 i u hc
          refine ⟨v', r1, fun hone => ?_⟩
          unfold mvC at hone ⊢
          cases hm : mvV ρ u with
          | none => rw [hm] at hone; cases hone
          | some v2 =>
            rw [hm] at hone
            show VR κ2 v2 v'
            have hu : oneCell u = true := by
              unfold mvV at hm
              split at hm
              · rfl
              · rfl
              · cases hf : flatV u with
                | false => rw [hf] at hm; cases hm
                | true => rw [hf] at hm; cases hm; exact hone
            exact mvV_ok hκ hm (r2 hu)
theorem Here.move2 {m N : Nat} {W : World} {live live2 : List (Nat × Value)} {obj obj2 : List (Option AObj)} {a : Act} {w : World} (ρ : List Nat) (hN : small N = true) (hb : ρ.length ≤ BIG)
    (hρ : rhoOk m obj.length ρ = true) (hobj : ObjsOk ρ obj ρ obj2) (hl : mvL ρ live = some live2) (hk : keysOk N live2 = true) (hs : Here P m W N live obj a w) : Here P m W N live2 obj2 a w := by
  obtain ⟨κ, G, f, s⟩ := hs
  simp only [rhoOk, Bool.and_eq_true, decide_eq_true_eq, Nat.ble_eq, List.all_eq_true, Nat.blt_eq] at hρ
  obtain ⟨⟨⟨hnd, hm⟩, hid0⟩, htop⟩ := hρ
  simp only [keysOk, Bool.and_eq_true, decide_eq_true_eq, List.all_eq_true, Nat.blt_eq] at hk
  have hidm : ∀ i, i < m → ρ[i]? = some i := fun i hi => by simpa using hid0 i (List.mem_range.2 hi)
  have hlen : obj2.length = ρ.length := hobj.len
  let κ2 : K := fun id => match ρ[id]? with
    | some r => κ r
    | none => if BIG + m ≤ id then κ (id - BIG) else none
  let G2 : Nat → Option AObj := fun id => if id < obj2.length then objAt obj2 id else none
  have hκ : ∀ j r, ρ[j]? = some r → κ2 j = κ r := fun j r h => by simp only [κ2, h]
  have hκ0 : ∀ id b, κ2 id = some b → (∃ r, ρ[id]? = some r ∧ κ r = some b) ∨ (ρ[id]? = none ∧ BIG + m ≤ id ∧ κ (id - BIG) = some b) := fun id b h => by
    simp only [κ2] at h
    split at h
    · rename_i r hr; exact .inl ⟨r, hr, h⟩
    · rename_i hr
      split at h
      · rename_i hB; exact .inr ⟨hr, hB, h⟩
      · cases h
  have hcov : ∀ id b, κ id = some b → ∃ id2, κ2 id2 = some b := fun id b h => by
    rcases Nat.lt_or_ge id m with q | q
    · exact ⟨id, by rw [hκ id id (hidm id q)]; exact h⟩
    · refine ⟨BIG + id, ?_⟩
      have : ρ[BIG + id]? = none := List.getElem?_eq_none (by omega)
      have hle : BIG + m ≤ BIG + id := by omega
      simp only [κ2, this, hle, if_true, Nat.add_sub_cancel_left]
      exact h
  have hG2 : ∀ id o, G2 id = some o → ∃ r o', ρ[id]? = some r ∧ G r = some o' ∧ (o'.view = true → o.view = true) ∧ ∀ b w, ObjIn P κ b w o' → ObjIn P κ2 b w o := fun id o h => by
    simp only [G2] at h
    split at h
    · rename_i hid
      have hlt : id < ρ.length := by omega
      have hr : ρ[id]? = some ρ[id] := List.getElem?_eq_getElem hlt
      obtain ⟨o', h1, h2, h3⟩ := objIn_mv (P := P) hκ (hobj.at_ id _ hr) h
      exact ⟨_, o', hr, by rw [s.full _ (htop _ (List.getElem_mem hlt))]; exact h1, h2, h3⟩
    · cases h
  have hrel : Rel P κ2 G2 w := by
    refine ⟨fun id o ho => ?_, fun id id' o o' b b' ho ho' hb' hb'' hblk hv => ?_, fun id b hb' => ?_⟩
    · obtain ⟨r, o', hr, h2, _, h4⟩ := hG2 id o ho
      obtain ⟨b, hb1, hin⟩ := s.rel.at_ r o' h2
      exact ⟨b, by rw [hκ id r hr]; exact hb1, h4 b w hin⟩
    · obtain ⟨r, p, hr, h2, v1, _⟩ := hG2 id o ho
      obtain ⟨r', p', hr', h2', v2, _⟩ := hG2 id' o' ho'
      rw [hκ id r hr] at hb'
      rw [hκ id' r' hr'] at hb''
      have := s.rel.one r r' p p' b b' h2 h2' hb' hb'' hblk (view_and hv v1 v2)
      subst this
      obtain ⟨g1, g1'⟩ := List.getElem?_eq_some_iff.1 hr
      obtain ⟨g2, g2'⟩ := List.getElem?_eq_some_iff.1 hr'
      exact (List.getElem_inj hnd).1 (g1'.trans g2'.symm)
    · rcases hκ0 id b hb' with ⟨r, _, h⟩ | ⟨_, _, h⟩
      · exact s.rel.old r b h
      · exact s.rel.old _ b h
  have hpre : ∀ i, ∃ v2, VR κ2 v2 (a.tmps.getD i undef) := fun i => VR.pre hcov (s.fr.at_ i)
  let g : Nat → Value := fun i => (lk live2 i).getD (hpre i).choose
  have hlive : ∀ x ∈ live2, VR κ2 x.2 (a.tmps.getD x.1 undef) := fun x hx => by
    obtain ⟨v1, h1, h2⟩ := mvL_mem hl x hx
    have h3 := s.fr.at_ x.1
    rw [holds_mem s.holds h1] at h3
    exact mvV_ok hκ h2 h3
  have hg : ∀ i, VR κ2 (g i) (a.tmps.getD i undef) := fun i => by
    simp only [g]
    cases hlk : lk live2 i with
    | none => exact (hpre i).choose_spec
    | some v =>
      have : ∀ (l : List (Nat × Value)), lk l i = some v → (i, v) ∈ l := by
        intro l
        induction l with
        | nil => intro h; cases h
        | cons y l ih =>
          obtain ⟨j, x⟩ := y
          intro h
          unfold lk at h
          cases hb : Nat.beq i j with
          | true =>
            rw [hb] at h; cases h
            rw [beq_eq, decide_eq_true_eq] at hb
            subst hb; simp
          | false => rw [hb] at h; simp [ih h]
      exact hlive (i, v) (this live2 hlk)
  refine ⟨κ2, G2, frOf N g, hrel, ⟨by rw [s.fr.size, s.n]; rfl, fun i => ?_⟩, rfl, rfl, s.df, holds_of fun x hx => ?_, fun id hid => if_pos hid, fun id hid hid' => ⟨if_neg (by omega), ?_⟩, fun id b hb' hid => ?_, s.below⟩
  · rw [frOf_get hN]
    by_cases hi : i < N
    · rw [if_pos hi]; exact hg i
    · rw [if_neg hi]
      have : a.tmps.getD i undef = undef := by
        rw [Array.getD_eq_getD_getElem?, Array.getElem?_eq_none (by rw [s.fr.size, s.n]; omega)]; rfl
      rw [this]
      exact VR.flat _ undef_flat
  · have hkx := hk.1 x.1 (List.mem_map.2 ⟨x, hx, rfl⟩)
    rw [frOf_get hN, if_pos hkx]
    show (lk live2 x.1).getD _ = x.2
    rw [lk_mem hk.2 (show (x.1, x.2) ∈ live2 from hx)]
    rfl
  · have : ρ[id]? = none := List.getElem?_eq_none (by omega)
    simp only [κ2, this]
    rw [if_neg (by omega)]
  · rcases hκ0 id b hb' with ⟨r, hr, h⟩ | ⟨_, hB, h⟩
    · refine s.own r b h ?_
      rcases Nat.lt_or_ge r m with q | q
      · have h1 := hidm r q
        obtain ⟨g1, g1'⟩ := List.getElem?_eq_some_iff.1 h1
        obtain ⟨g2, g2'⟩ := List.getElem?_eq_some_iff.1 hr
        have : r = id := (List.getElem_inj (h₀ := g1) (h₁ := g2) hnd).1 (g1'.trans g2'.symm)
        omega
      · exact q
    · exact s.own _ b h (by omega)
end
end Go.Ev
namespace Go.Ev
open Go Go.RowKit

section
variable {P : Program}
/-- The same as 'Seg', but only the first blocks are told; there are 'n1'. -/
def SegG (P : Program) (m N : Nat) (F : WPost → Act → World → Prop) (live : List (Nat × Value)) (obj : List (Option AObj)) (ex : AExit) (live1 : List (Nat × Value)) (obj1 : List (Option AObj)) (n1 : Nat) : Prop :=
  ∀ f, f.n = N → f.ds = [] → Holds f live → ∃ f1 h1, Tup P 0 f (hpOf obj) ex f1 h1 F ∧ f1.ds = [] ∧ Holds f1 live1 ∧ h1.n = n1 ∧ (∀ id, id < obj1.length → h1.get id = objAt obj1 id) ∧ (∀ id, id < m → h1.wr.testBit id = false)
theorem objAt_app {l m : List (Option AObj)} : ∀ {id : Nat}, id < l.length → objAt (l ++ m) id = objAt l id := by
  induction l with
  | nil => intro id h; exact absurd h (Nat.not_lt_zero _)
  | cons o l ih =>
    intro id h
    cases id with
    | zero => rfl
    | succ id => exact ih (by rw [List.length_cons] at h; omega)
theorem objAt_app2 {l m : List (Option AObj)} : ∀ {id : Nat}, objAt (l ++ m) (l.length + id) = objAt m id := by
  induction l with
  | nil => intro id; rw [List.length_nil, Nat.zero_add]; rfl
  | cons o l ih =>
    intro id
    rw [List.length_cons, show l.length + 1 + id = (l.length + id) + 1 by omega]
    exact ih
theorem Here.segG {m N n1 : Nat} {W : World} {live live1 : List (Nat × Value)} {obj obj1 : List (Option AObj)} {F : WPost → Act → World → Prop} {ex : AExit} {ee : Exit} {a : Act} {w : World} {Q : WPost} (hN : small N = true)
    (t : SegG P m N F live obj ex live1 obj1 n1) (hex : ∀ κ e, ExR κ ex e → e = ee) (hb0 : obj.length ≤ BIG) (hle : obj1.length ≤ n1) (hb : n1 ≤ BIG)
    (hs : Here P m W N live obj a w) (hq : ∀ a' w' garb, (obj1 ++ garb).length = n1 → Here P m W N live1 (obj1 ++ garb) a' w' → Q ee a' w') : F Q a w := by
  obtain ⟨κ, G, f, s⟩ := hs
  obtain ⟨f1, h1, tt, ds1, hl1, hn1, hg1, hw1⟩ := t f s.n s.ds s.holds
  let garb := (List.range (n1 - obj1.length)).map fun j => h1.get (obj1.length + j)
  have hlen : (obj1 ++ garb).length = n1 := by simp [garb]; omega
  obtain ⟨⟨x, wf1, hnn⟩, sem⟩ := tt (hpOf_wf hb0) (by rw [s.n]; exact hN)
  have hn0 : (hpOf obj).n = obj.length := rfl
  have hget : ∀ id, id < obj.length → (hpOf obj).get id = objAt obj id := fun id hid => by rw [hpOf_get hb0, if_pos hid]
  have hle0 : obj.length ≤ n1 := by have := x.n; rw [hn0, hn1] at this; exact this
  have hgA : ∀ id, id < n1 → h1.get id = objAt (obj1 ++ garb) id := fun id hid => by
    rcases Nat.lt_or_ge id obj1.length with q | q
    · rw [objAt_app q]; exact hg1 id q
    · obtain ⟨j, rfl⟩ : ∃ j, id = obj1.length + j := ⟨id - obj1.length, by omega⟩
      rw [objAt_app2]
      have : objAt ((List.range (n1 - obj1.length)).map fun j => h1.get (obj1.length + j)) j = h1.get (obj1.length + j) := by
        have e : ((List.range (n1 - obj1.length)).map fun j => h1.get (obj1.length + j)) = ((List.range (n1 - obj1.length)).map fun j => obj1.length + j).map h1.get := by rw [List.map_map]; rfl
        rw [e]
        refine objAt_map _ _ ?_
        rw [List.getElem?_map, List.getElem?_range (by omega)]
        rfl
      exact this.symm
  refine sem κ G a w 0 Q (fun g hg => absurd hg (Nat.not_lt_zero _)) s.rel s.fr (by rw [s.ds, s.df]; exact .nil) (Nat.zero_le _) (fun id hid _ => by rw [s.full id hid, hget id hid]) (fun id hid hid' => s.free id hid (by rw [hn1] at hid'; omega)) fun κ' ex' a' w' q0 q1 q2 q3 q4 => ?_
  have := hex _ _ q0
  subst this
  have hdf : a'.defers = [] := by
    rw [ds1] at q3
    generalize a'.defers = dd at q3
    cases q3
    rfl
  refine hq a' w' garb hlen ⟨κ', _, f1, q1, q2, hnn.trans s.n, ds1, hdf, hl1, fun id hid => ?_, fun id hid hid' => ?_, fun id b hb hid => ?_, ?_⟩
  · rw [hlen] at hid
    unfold merge
    by_cases hc : ((hpOf obj).n ≤ id ∧ id < h1.n) ∨ h1.wr.testBit id = true
    · rw [if_pos hc]; exact hgA id hid
    · rw [if_neg hc]
      simp only [not_or, Bool.not_eq_true] at hc
      have hlt : id < obj.length := by
        rcases Nat.lt_or_ge id obj.length with h | h
        · exact h
        · exact absurd ⟨h, by rw [hn1]; exact hid⟩ hc.1
      rw [s.full id hlt, ← hget id hlt, ← x.same id hlt hc.2]
      exact hgA id hid
  · rw [hlen] at hid
    unfold merge
    have hwr : h1.wr.testBit id = false := by
      cases hq : h1.wr.testBit id with
      | false => rfl
      | true => have := wf1.wr id hq; rw [hn1] at this; omega
    rw [if_neg (by rw [hn1]; simp [hwr]; omega), q4.dom id (by rw [hn1]; omega)]
    exact s.free id (by omega) hid'
  · rcases q4.new id b hb with h | h | ⟨i, c, h1', h2, h3⟩
    · exact s.own id b h hid
    · exact Nat.le_trans s.below.size h
    · have him : m ≤ i := by
        rcases Nat.lt_or_ge i m with q | q
        · rw [hw1 i q] at h3; cases h3
        · exact q
      rw [← h2]
      exact s.own i c h1' him
  · have hb := s.below
    refine ⟨q4.same.os.trans hb.os, q4.same.tape.trans hb.tape, q4.same.output.trans hb.output, Nat.le_trans hb.size q4.same.size, fun k hk => ?_⟩
    rw [← hb.block k hk]
    refine q4.keep k (Nat.lt_of_lt_of_le hk hb.size) fun id b hb' hbk => ?_
    rcases Nat.lt_or_ge id m with q | q
    · exact hw1 id q
    · have := s.own id b hb' q
      omega
theorem seg_ofG {m N : Nat} (hN : small N = true) {F : WPost → Act → World → Prop} {live : List (Nat × Value)} {obj obj1 : List (Option AObj)} {ex : AExit} {slots ids : List Nat} {vs : List Value} {n1 rd1 wr1 : Nat} {ps : List Prop} {run : Fr → PO (AExit × Fr × AH)}
    (hrun : ∀ f f0 h0 qs, run f = some ((ex, f0, h0), qs) → All qs → Tup P 0 (canonF N live f) (hpOf obj) ex f0 h0 F)
    (hstart : ∀ {f g : Fr} {h : AH} {ex : AExit} {f' : Fr} {h' : AH}, FrEq f g → Tup P 0 g h ex f' h' F → Tup P 0 f h ex f' h' F)
    (er : ∀ f, roundOutH slots ids (run f) = some (ex, vs, N, (n1, rd1, wr1), obj1, ps)) (hp : All ps) (hids : ids = List.range obj1.length) (hw : Nat.beq (Nat.land wr1 (2 ^ m - 1)) 0 = true) :
    SegG P m N F live obj ex (slots.zip vs) obj1 n1 := by
  intro f hn hd hl
  have er := er f
  unfold roundOutH at er
  split at er
  · rename_i ex0 f0 h0 qs he
    split at er
    · rename_i hds
      simp only [Option.some.injEq, Prod.mk.injEq] at er
      obtain ⟨rfl, rfl, hf0, ⟨hh1, hh2, hh3⟩, ho, rfl⟩ := er
      refine ⟨f0, h0, hstart (canonF_eq hN hn hd hl) (hrun f f0 h0 _ he hp), hds, holds_zip f0 slots, hh1, fun id hid => ?_, fun id hid => by rw [hh3]; exact low_of hw id hid⟩
      rw [← ho]
      refine (objAt_map ids id ?_).symm
      rw [hids, List.getElem?_range hid]
    · cases er
  · cases er
theorem seg_runG (hz : zerosFlat P = true) (hmix : P.follows .mixedOrders = true) {H : Hints} (hH : H.Ok P 0) {k m N : Nat} {g : FuncId} {c : Code} {live : List (Nat × Value)} {obj obj1 : List (Option AObj)} {ex : AExit} {slots ids : List Nat} {vs : List Value} {n1 rd1 wr1 : Nat} {ps : List Prop}
    (hN : small N = true) (er : ∀ f, roundOutH slots ids ((runHR P 0 H k).1 g c (canonF N live f) (hpOf obj)) = some (ex, vs, N, (n1, rd1, wr1), obj1, ps)) (hp : All ps) (hids : ids = List.range obj1.length) (hw : Nat.beq (Nat.land wr1 (2 ^ m - 1)) 0 = true) :
    SegG P m N (codeW P c) live obj ex (slots.zip vs) obj1 n1 :=
  seg_ofG hN (fun _ _ _ _ he hq => runHR_code hz hmix hH he hq) tup_start er hp hids hw
theorem seg_splitG (hz : zerosFlat P = true) (hmix : P.follows .mixedOrders = true) {H : Hints} (hH : H.Ok P 0) {k m N n : Nat} (hN : small N = true) {g : FuncId} {c p r : Code} (hs : splitSeq n c = some (p, r)) {live : List (Nat × Value)} {obj obj1 : List (Option AObj)} {slots ids : List Nat} {vs : List Value} {n1 rd1 wr1 : Nat} {ps : List Prop}
    (er : ∀ f, roundOutH slots ids ((runHR P 0 H k).1 g p (canonF N live f) (hpOf obj)) = some (.normal, vs, N, (n1, rd1, wr1), obj1, ps)) (hp : All ps) (hids : ids = List.range obj1.length) (hw : Nat.beq (Nat.land wr1 (2 ^ m - 1)) 0 = true) :
    SegG P m N (thenW P c r) live obj .normal (slots.zip vs) obj1 n1 :=
  seg_ofG hN (fun _ f0 h0 qs he hq => run_split hz hmix hH n k c p r _ _ f0 h0 qs hs he hq) tup_start er hp hids hw
/-- A piece of code, and its garbage is dropped. -/
theorem Here.segK {m N n1 : Nat} {W : World} {live live1 live2 : List (Nat × Value)} {obj obj1 : List (Option AObj)} {F : WPost → Act → World → Prop} {ex : AExit} {ee : Exit} {a : Act} {w : World} {Q : WPost} (hN : small N = true)
    (t : SegG P m N F live obj ex live1 obj1 n1) (hex : ∀ κ e, ExR κ ex e → e = ee) (hb0 : obj.length ≤ BIG) (hle : obj1.length ≤ n1) (hb : n1 ≤ BIG)
    (hρ : rhoOk m n1 (List.range obj1.length) = true) (hobj : ∀ j, j < obj1.length → ObjOk (List.range obj1.length) (objAt obj1 j) (objAt obj1 j)) (hl : mvL (List.range obj1.length) live1 = some live2) (hk : keysOk N live2 = true)
    (hs : Here P m W N live obj a w) (hq : ∀ a' w', Here P m W N live2 obj1 a' w' → Q ee a' w') : F Q a w := by
  refine Here.segG hN t hex hb0 hle hb hs fun a' w' garb hg hh => hq a' w' ?_
  refine Here.move2 (List.range obj1.length) hN (by rw [List.length_range]; omega) (by rw [hg]; exact hρ) ?_ hl hk hh
  have key : ∀ (l : List (Option AObj)) (i : Nat), (∀ j, j < l.length → objAt obj1 (i + j) = objAt l j) → i + l.length ≤ obj1.length → ObjsOk (List.range obj1.length) (obj1 ++ garb) (List.range' i l.length) l := by
    intro l
    induction l with
    | nil => intro i _ _; trivial
    | cons o l ih =>
      intro i h1 h2
      rw [List.length_cons] at h2
      refine ⟨?_, ih (i + 1) (fun j hj => ?_) (by omega)⟩
      · have e : objAt obj1 i = o := h1 0 (by rw [List.length_cons]; omega)
        rw [objAt_app (by omega), e]
        have := hobj i (by omega)
        rw [e] at this
        exact this
      · have := h1 (j + 1) (by rw [List.length_cons]; omega)
        rw [show i + 1 + j = i + (j + 1) by omega]
        exact this
  have := key obj1 0 (fun j _ => by rw [Nat.zero_add]) (by omega)
  rw [List.range_eq_range']
  rw [List.range_eq_range'] at this
  exact this
end
end Go.Ev
