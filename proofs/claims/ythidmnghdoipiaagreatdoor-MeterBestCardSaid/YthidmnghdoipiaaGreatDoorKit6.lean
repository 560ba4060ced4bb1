/- A certified evaluator of calls, run by the kernel, with its rules for what is not known: what it tells holds of every program. -/
import Derived.ChangeSlices
import Derived.Test.YthidmnghdoipiaaGreatDoorKit4
import Derived.Test.YthidmnghdoipiaaGreatDoorKit5
namespace Go.Ev
open Go Go.RowKit Go.ChangeShapes Go.WideShapes

section
variable {P : Program}
/-- The row of an argument: of what type its block is, is not told. -/
abbrev cameH (cs : List Value) (e : TypeId) : AH := rowH cs e 1 0 false false 0
theorem VL.flats {κ : K} {l : List Value} (h : flatL l = true) : VL κ l l := VL.flat l h
/-- What is known of a row that has come in. -/
structure Came (w : World) (cs : List Value) (a : Addr) : Prop where
  spot : a.spot = none
  row : ∃ cs' e' fz, w.heap[a.block]? = some (.cells cs' e' fz) ∧ a.off + cs.length ≤ cs'.size ∧ ∀ i x, cs[i]? = some x → cs'[a.off + i]? = some x
  flat : flatL cs = true
/-- The rows of the arguments, one behind the other, as views of whatever blocks they lie in. -/
def cameG (e : TypeId) (rows : List (List Value × Addr)) : Nat → Option AObj := fun id => (rows[id]?).map fun r => .cells r.1 e 1 0 false false
noncomputable def cameK (P : Program) (w : World) (e : TypeId) (rows : List (List Value × Addr)) : K := fun id => (rows[id]?).map fun r =>
  ⟨r.2.block, r.2.off, (match (w.heap[r.2.block]? : Option Obj) with
    | some (Obj.cells cs' _ _) => cs'.size
    | _ => 0), false, P.cellsOf e⟩
theorem came_rel {w : World} {e : TypeId} {rows : List (List Value × Addr)} (hr : ∀ r ∈ rows, Came w r.1 r.2) : Rel P (cameK P w e rows) (cameG e rows) w := by
  have hat : ∀ id o, cameG e rows id = some o → ∃ r, rows[id]? = some r ∧ o = .cells r.1 e 1 0 false false := fun id o ho => by
    unfold cameG at ho
    cases hi : rows[id]? with
    | none => rw [hi] at ho; cases ho
    | some r => rw [hi] at ho; cases ho; exact ⟨r, rfl, rfl⟩
  refine ⟨fun id o ho => ?_, fun id id' o o' x x' ho ho' _ _ _ hv => ?_, fun id x hx => ?_⟩
  · obtain ⟨r, hri, rfl⟩ := hat id o ho
    have hc := hr r (List.mem_of_getElem? hri)
    obtain ⟨cs', e', fz, hh, hlen, hcells⟩ := hc.row
    refine ⟨⟨r.2.block, r.2.off, cs'.size, false, P.cellsOf e⟩, ?_, rfl, by simp, hlen, cs', fz, ⟨e', hh, fun h => absurd h (by decide)⟩, rfl,
      fun i x hx => ⟨x, hcells i x hx, fun _ => VR.flat x (flat_mem hc.flat (List.mem_of_getElem? hx))⟩, fun h => absurd h (by decide)⟩
    unfold cameK
    rw [hri]
    simp [hh]
  · obtain ⟨r, _, rfl⟩ := hat id o ho
    obtain ⟨r', _, rfl⟩ := hat id' o' ho'
    simp [AObj.view, Nat.blt] at hv
  · unfold cameK at hx
    cases hi : rows[id]? with
    | none => rw [hi] at hx; cases hx
    | some r =>
      rw [hi] at hx
      cases hx
      obtain ⟨cs', e', fz, hh, _⟩ := (hr r (List.mem_of_getElem? hi)).row
      exact (Array.getElem?_eq_some_iff.1 hh).1
theorem came_slice {w : World} {e : TypeId} {rows : List (List Value × Addr)} {id : Nat} {r : List Value × Addr} (hr : rows[id]? = some r) (hs : r.2.spot = none) (n c : Nat) :
    VR (cameK P w e rows) (.slice (some ⟨id, 0, none⟩) n c) (.slice (some r.2) n c) :=
  .slice ⟨rfl, hs, _, by unfold cameK; rw [hr]; rfl, rfl, .inl ⟨rfl, rfl⟩⟩
/-- A call over rows that have come in. -/
theorem CTup.came {g : FuncId} {e : TypeId} {rows : List (List Value × Addr)} {args args' : List Value} {v : Value} {h0 h1 : AH} (t : CTup P 0 g args h0 (.ret v) h1) (wf : WF h0) (hn : h0.n = rows.length)
    (hg : ∀ id, id < rows.length → h0.get id = cameG e rows id) (hw : ∀ id, id < rows.length → h1.wr.testBit id = false) (hv : flatV v = true)
    {w : World} (hr : ∀ r ∈ rows, Came w r.1 r.2) (hargs : VL (cameK P w e rows) args args') :
    Calls P g ⟨args'⟩ w fun en w' => en = .returned v ∧ Below w.heap.size w w' := by
  have hout : ∀ id, rows.length ≤ id → rows[id]? = none := fun id h => List.getElem?_eq_none h
  refine ((t wf).2 (cameK P w e rows) (cameG e rows) ⟨args'⟩ w (fun g hg => absurd hg (Nat.not_lt_zero _)) (came_rel hr) hargs (fun id hid _ => (hg id (by omega)).symm) (fun id hid _ => ?_)).mono fun en w' hen => ?_
  · have := hout id (by omega)
    exact ⟨by unfold cameG; rw [this]; rfl, by unfold cameK; rw [this]; rfl⟩
  · obtain ⟨κ', hend, _, hkx⟩ := hen
    cases hend with
    | ret hr' =>
    refine ⟨by rw [VR.eq_of_flat hr' hv], hkx.same.os, hkx.same.tape, hkx.same.output, hkx.same.size, fun k hk => hkx.keep k hk fun id x hx _ => ?_⟩
    rcases Nat.lt_or_ge id rows.length with h | h
    · exact hw id h
    · unfold cameK at hx
      rw [hout id h] at hx
      cases hx

/-- The bytes that have come in. -/
def u8L (zs : List Int) : List Value := zs.map fun x => .int .u8 x
theorem flatL_u8 : ∀ zs : List Int, flatL (u8L zs) = true
  | [] => rfl
  | x :: zs => by
    show (flatV (.int .u8 x) && flatL (u8L zs)) = true
    rw [flatL_u8 zs]; rfl
theorem u8L_get {zs : List Int} {i : Nat} {x : Value} (h : (u8L zs)[i]? = some x) : i < zs.length ∧ x = .int .u8 (zs.getD i 0) := by
  unfold u8L at h
  rw [List.getElem?_map] at h
  cases hz : zs[i]? with
  | none => rw [hz] at h; cases h
  | some z =>
    rw [hz] at h
    cases h
    refine ⟨(List.getElem?_eq_some_iff.1 hz).1, ?_⟩
    simp [List.getD, hz]
theorem byteAt_u8 {zs : List Int} {i : Nat} (h : i < zs.length) : byteAt (u8L zs) i = zs.getD i 0 ∧ nth (u8L zs) i = some (.int .u8 (zs.getD i 0)) := by
  have e : nth (u8L zs) i = some (.int .u8 (zs.getD i 0)) := by
    rw [nth_eq]
    unfold u8L
    rw [List.getElem?_map]
    simp [List.getD, List.getElem?_eq_getElem h]
  exact ⟨by unfold byteAt; rw [e], e⟩
theorem bytes_u8 {zs : List Int} (hz : ∀ x ∈ zs, 0 ≤ x ∧ x < 256) {n : Nat} (hn : n ≤ zs.length) (hs : n ≤ 140737488355328) : Bytes (u8L zs) 0 n := by
  have hm : ∀ i, i < n → 0 ≤ zs.getD i 0 ∧ zs.getD i 0 < 256 := fun i hi => by
    have hlt : i < zs.length := by omega
    have : zs.getD i 0 = zs[i] := by simp [List.getD, List.getElem?_eq_getElem hlt]
    rw [this]
    exact hz _ (List.getElem_mem hlt)
  refine ⟨flatL_u8 zs, fun i hi => ?_, fun i hi => ?_, fun i hi => ?_, hs⟩
  · rw [Nat.zero_add]; have := byteAt_u8 (zs := zs) (i := i) (by omega); rw [this.1]; exact this.2
  · rw [Nat.zero_add]; have := byteAt_u8 (zs := zs) (i := i) (by omega); rw [this.1]; exact (hm i hi).1
  · rw [Nat.zero_add]; have := byteAt_u8 (zs := zs) (i := i) (by omega); rw [this.1]; exact (hm i hi).2
theorem rowAt_off {fits : TypeId → Bool} {d : Nat} {e : TypeId} {count off n : Nat} (h : rowAt P fits d e count off n = true) : off ≤ count * P.cellsOf e := by
  cases d with
  | zero => cases h
  | succ d =>
    unfold rowAt at h
    simp only [] at h
    split at h
    · cases h
    · rename_i hs
      have hd : off = P.cellsOf e * (off / P.cellsOf e) + off % P.cellsOf e := (Nat.div_add_mod ..).symm
      have hr : off % P.cellsOf e < P.cellsOf e := Nat.mod_lt _ (by omega)
      simp only [Bool.or_eq_true, Bool.and_eq_true, beq_iff_eq, decide_eq_true_eq] at h
      rcases h with ⟨⟨h1, h2⟩, _⟩ | ⟨h1, _⟩
      · rw [hd, h1, Nat.add_zero, Nat.mul_comm]
        exact Nat.mul_le_mul_right _ (by omega)
      · have : P.cellsOf e * (off / P.cellsOf e) + P.cellsOf e ≤ count * P.cellsOf e := by
          rw [← Nat.mul_succ, Nat.mul_comm]
          exact Nat.mul_le_mul_right _ h1
        omega
theorem liesAt_off {e : TypeId} {count off : Nat} : ∀ {d : Nat} {u : TypeId} {n : Nat}, liesAt P d e count off u n = true → off ≤ count * P.cellsOf e
  | 0, _, _, h => by cases h
  | d + 1, u, n, h => by
    unfold liesAt at h
    simp only [Bool.or_eq_true] at h
    rcases h with h | h
    · exact rowAt_off h
    · split at h
      · exact liesAt_off h
      · cases h
/-- A slice of bytes that has come in: nothing, or a row's part whose bytes are known. -/
theorem bytes_came {H : Type} {enc : TypeId × Value → H} {W : World} {t e : TypeId} {v : Value} {b0 : Nat} {d : DataW H} {ps : List MemPlace} (ht : P.underlying t = some (.slice e)) (he : P.underlying e = some (.int .u8)) (hc : P.cellsOf e = 1)
    (hval : Value.okWide P W .any b0 t v) (hd : DataW.Trod enc P W 0 (fun _ => true) true t v d ps) :
    v = .slice none 0 0 ∨ ∃ a n c zs, v = .slice (some a) n c ∧ Came W (u8L zs) a ∧ n ≤ c ∧ zs.length = c ∧ (∀ x ∈ zs, 0 ≤ x ∧ x < 256) ∧ ∃ ls ss, d = .slice ls ss ∧ ls.length + ss.length = c := by
  rcases slice_came ht hval with rfl | ⟨a, n, c, rfl, hs, hlt⟩
  · exact .inl rfl
  right
  obtain ⟨fuel, hf⟩ := hd
  rcases open_ints ht he hc hf with ⟨hx, _⟩ | ⟨a1, n1, c1, zs, hx, _, hl, _, hz, hdd, hcell, hwf⟩
  · cases hx
  · simp only [if_true] at hz
    have hx' : [Value.slice (some a) n c] = [Value.slice (some a1) n1 c1] := hx
    cases hx'
    have hrow : ∀ i, i < c → ∃ cs' e' fz, W.heap[a.block]? = some (.cells cs' e' fz) ∧ cs'[a.off + i]? = some (.int .u8 (zs.getD i 0)) := fun i hi => by
      have := hcell i (by omega)
      rw [addr_add hs] at this
      unfold World.cell? at this
      simp only [] at this
      cases hh : W.heap[a.block]? with
      | none => rw [hh] at this; cases this
      | some o =>
        rw [hh] at this
        cases o with
        | cells cs' e' fz => exact ⟨cs', e', fz, rfl, this⟩
        | _ => cases this
    have hblk : ∃ cs' e' fz, W.heap[a.block]? = some (.cells cs' e' fz) ∧ a.off + c ≤ cs'.size := by
      have h := hval
      simp only [Value.okWide, ht, Cell.okWide, Cell.ok, World.has] at h
      obtain ⟨_, _, _, hsp, row, cells, hsh, hlies⟩ := h
      unfold World.shape? at hsh
      cases hh : W.heap[a.block]? with
      | none => rw [hh] at hsh; cases hsh
      | some o =>
        rw [hh] at hsh
        cases o with
        | cells cs' e' fz =>
          simp only [Option.some.injEq, Prod.mk.injEq] at hsh
          obtain ⟨h1, h2⟩ := hsh
          subst h1 h2
          refine ⟨cs', e', fz, rfl, ?_⟩
          rcases Nat.eq_zero_or_pos c with hc0 | hc0
          · have h1 := liesAt_off hlies
            have h2 : cs'.size / P.cellsOf e' * P.cellsOf e' ≤ cs'.size := Nat.div_mul_le_self ..
            omega
          · obtain ⟨cs2, e2, fz2, g1, g2⟩ := hrow (c - 1) (by omega)
            rw [hh] at g1
            cases g1
            have := (Array.getElem?_eq_some_iff.1 g2).1
            omega
        | _ => cases hsh
    obtain ⟨cs', e', fz, hh, hle⟩ := hblk
    refine ⟨a, n, c, zs, rfl, ⟨hs, ⟨cs', e', fz, hh, by unfold u8L; simp; omega, fun i x hx => ?_⟩, flatL_u8 zs⟩, hl, hz, fun x hx => ?_, _, _, congrArg Prod.fst hdd, ?_⟩
    · obtain ⟨g1, rfl⟩ := u8L_get hx
      obtain ⟨cs2, e2, fz2, g2, g3⟩ := hrow i (by omega)
      rw [hh] at g2
      cases g2
      exact g3
    · have := hwf x hx
      simp only [Lit.wf, Bool.and_eq_true, decide_eq_true_eq] at this
      have e1 : IntKind.u8.min = 0 := by decide
      have e2 : IntKind.u8.max = 255 := by decide
      rw [e1, e2] at this
      omega
    · simp [lits]; omega
end
end Go.Ev
