/- A row that has come in as an argument: whatever block it lies in. Holds for every program. -/
import Derived.Test.YtnfijnioclcnmaaDoorSxAppend
import Derived.Test.YtnfijnioclcnmaaDoorEvPost
import Derived.ChangeSlices
namespace Go.Ev
open Go Go.RowKit Go.ChangeShapes Go.WideShapes

section
variable {P : Program}
/-- The row of an argument: of what type its block is, is not told. -/
abbrev cameH (cs : List Value) (e : TypeId) : AH := rowH cs e 1 0 false false 0
theorem VL.flats {κ : K} {l : List Value} (h : flatL l = true) : VL κ l l := VL.flat l h
theorem CTup.came {g : FuncId} {cs : List Value} {e : TypeId} {n c : Nat} {front rest : List Value} {v : Value} {h0' : AH}
    (t : CTup P 0 g (front ++ .slice (some ⟨0, 0, none⟩) n c :: rest) (cameH cs e) (.ret v) h0') (hff : flatL front = true) (hfr : flatL rest = true) (hv : flatV v = true) (hw : h0'.wr.testBit 0 = false)
    {w : World} {a : Addr} {cs' : Array Value} {e' : TypeId} {fz : Nat × Nat} (hsp : a.spot = none) (hheap : w.heap[a.block]? = some (.cells cs' e' fz)) (hlen : a.off + cs.length ≤ cs'.size)
    (hcells : ∀ i x, cs[i]? = some x → cs'[a.off + i]? = some x) (hflat : flatL cs = true) :
    Calls P g ⟨front ++ .slice (some a) n c :: rest⟩ w fun en w' => en = .returned v ∧ Below w.heap.size w w' := by
  let b : BI := ⟨a.block, a.off, cs'.size, false, P.cellsOf e⟩
  let κ : K := fun id => if id = 0 then some b else none
  let G : Nat → Option AObj := fun id => if id = 0 then some (.cells cs e 1 0 false false) else none
  have hlt : a.block < w.heap.size := (Array.getElem?_eq_some_iff.1 hheap).1
  have hκ : ∀ id x, κ id = some x → id = 0 ∧ x = b := fun id x hx => by
    simp only [κ] at hx
    split at hx
    · rename_i h0; cases hx; exact ⟨h0, rfl⟩
    · cases hx
  have hG : ∀ id o, G id = some o → id = 0 ∧ o = .cells cs e 1 0 false false := fun id o ho => by
    simp only [G] at ho
    split at ho
    · rename_i h0; cases ho; exact ⟨h0, rfl⟩
    · cases ho
  have hin : ObjIn P κ b w (.cells cs e 1 0 false false) := by
    refine ⟨rfl, by simp; rfl, hlen, cs', fz, ⟨e', hheap, fun h => absurd h (by decide)⟩, rfl, fun i x hx => ⟨x, hcells i x hx, fun _ => VR.flat x (flat_mem hflat (List.mem_of_getElem? hx))⟩, fun h => absurd h (by decide)⟩
  have hrel : Rel P κ G w := by
    refine ⟨fun id o ho => ?_, fun id id' o o' x x' ho ho' _ _ _ => ?_, fun id x hx => ?_⟩
    · obtain ⟨rfl, rfl⟩ := hG id o ho
      exact ⟨b, rfl, hin⟩
    · rw [(hG id o ho).1, (hG id' o' ho').1]
    · obtain ⟨_, rfl⟩ := hκ id x hx
      exact hlt
  have hargs : VL κ (front ++ .slice (some ⟨0, 0, none⟩) n c :: rest) (front ++ .slice (some a) n c :: rest) :=
    VL.append (VL.flat _ hff) (.cons (.slice ⟨rfl, hsp, b, rfl, rfl, .inl ⟨rfl, rfl⟩⟩) (VL.flat _ hfr))
  refine ((t (rowH_wf ..)).2 κ G ⟨front ++ .slice (some a) n c :: rest⟩ w (fun g hg => absurd hg (Nat.not_lt_zero _)) hrel hargs (fun id hid _ => ?_) (fun id hid _ => ?_)).mono fun en w' hen => ?_
  · have h1 : id < 1 := hid
    obtain rfl : id = 0 := by omega
    rfl
  · have h1 : 1 ≤ id := hid
    have h0 : id ≠ 0 := by omega
    exact ⟨if_neg h0, if_neg h0⟩
  · obtain ⟨κ', hend, _, hkx⟩ := hen
    cases hend with
    | ret hr =>
    exact ⟨by rw [VR.eq_of_flat hr hv], hkx.same.os, hkx.same.tape, hkx.same.output, hkx.same.size, fun k hk => hkx.keep k hk fun id x hx _ => by
      obtain ⟨rfl, _⟩ := hκ id x hx
      exact hw⟩

/-- The bytes that have come in. -/
def u8L (zs : List Int) : List Value := zs.map fun x => .int .u8 x
theorem flatL_u8 : ∀ zs : List Int, flatL (u8L zs) = true
  | [] => rfl
  | x :: zs => by
    show (flatV (.int .u8 x) && flatL (u8L zs)) = true
    rw [flatL_u8 zs]; rfl
theorem u8L_get {zs : List Int} {i : Nat} {x : Value} (h : (u8L zs)[i]? = some x) : i < zs.length ∧ x = .int .u8 (zs.getD i 0) := by
  unfold u8L at h
  rw [List.getElem?_map] at h
  cases hz : zs[i]? with
  | none => rw [hz] at h; cases h
  | some z =>
    rw [hz] at h
    cases h
    refine ⟨(List.getElem?_eq_some_iff.1 hz).1, ?_⟩
    simp [List.getD, hz]
theorem byteAt_u8 {zs : List Int} {i : Nat} (h : i < zs.length) : byteAt (u8L zs) i = zs.getD i 0 ∧ nth (u8L zs) i = some (.int .u8 (zs.getD i 0)) := by
  have e : nth (u8L zs) i = some (.int .u8 (zs.getD i 0)) := by
    rw [nth_eq]
    unfold u8L
    rw [List.getElem?_map]
    simp [List.getD, List.getElem?_eq_getElem h]
  exact ⟨by unfold byteAt; rw [e], e⟩
theorem bytes_u8 {zs : List Int} (hz : ∀ x ∈ zs, 0 ≤ x ∧ x < 256) {n : Nat} (hn : n ≤ zs.length) (hs : n ≤ 140737488355328) : Bytes (u8L zs) 0 n := by
  have hm : ∀ i, i < n → 0 ≤ zs.getD i 0 ∧ zs.getD i 0 < 256 := fun i hi => by
    have hlt : i < zs.length := by omega
    have : zs.getD i 0 = zs[i] := by simp [List.getD, List.getElem?_eq_getElem hlt]
    rw [this]
    exact hz _ (List.getElem_mem hlt)
  refine ⟨flatL_u8 zs, fun i hi => ?_, fun i hi => ?_, fun i hi => ?_, hs⟩
  · rw [Nat.zero_add]; have := byteAt_u8 (zs := zs) (i := i) (by omega); rw [this.1]; exact this.2
  · rw [Nat.zero_add]; have := byteAt_u8 (zs := zs) (i := i) (by omega); rw [this.1]; exact (hm i hi).1
  · rw [Nat.zero_add]; have := byteAt_u8 (zs := zs) (i := i) (by omega); rw [this.1]; exact (hm i hi).2
theorem rowAt_off {fits : TypeId → Bool} {d : Nat} {e : TypeId} {count off n : Nat} (h : rowAt P fits d e count off n = true) : off ≤ count * P.cellsOf e := by
  cases d with
  | zero => cases h
  | succ d =>
    unfold rowAt at h
    simp only [] at h
    split at h
    · cases h
    · rename_i hs
      have hd : off = P.cellsOf e * (off / P.cellsOf e) + off % P.cellsOf e := (Nat.div_add_mod ..).symm
      have hr : off % P.cellsOf e < P.cellsOf e := Nat.mod_lt _ (by omega)
      simp only [Bool.or_eq_true, Bool.and_eq_true, beq_iff_eq, decide_eq_true_eq] at h
      rcases h with ⟨⟨h1, h2⟩, _⟩ | ⟨h1, _⟩
      · rw [hd, h1, Nat.add_zero, Nat.mul_comm]
        exact Nat.mul_le_mul_right _ (by omega)
      · have : P.cellsOf e * (off / P.cellsOf e) + P.cellsOf e ≤ count * P.cellsOf e := by
          rw [← Nat.mul_succ, Nat.mul_comm]
          exact Nat.mul_le_mul_right _ h1
        omega
theorem liesAt_off {e : TypeId} {count off : Nat} : ∀ {d : Nat} {u : TypeId} {n : Nat}, liesAt P d e count off u n = true → off ≤ count * P.cellsOf e
  | 0, _, _, h => by cases h
  | d + 1, u, n, h => by
    unfold liesAt at h
    simp only [Bool.or_eq_true] at h
    rcases h with h | h
    · exact rowAt_off h
    · split at h
      · exact liesAt_off h
      · cases h
/-- A slice of bytes that has come in: nothing, or a row's part whose bytes are known. -/
theorem bytes_came {H : Type} {enc : TypeId × Value → H} {W : World} {t e : TypeId} {v : Value} {b0 : Nat} {d : DataW H} {ps : List MemPlace} (ht : P.underlying t = some (.slice e)) (he : P.underlying e = some (.int .u8)) (hc : P.cellsOf e = 1)
    (hval : Value.okWide P W .any b0 t v) (hd : DataW.Trod enc P W 0 (fun _ => true) true t v d ps) :
    v = .slice none 0 0 ∨ ∃ a n c zs cs' e' fz, v = .slice (some a) n c ∧ a.spot = none ∧ W.heap[a.block]? = some (.cells cs' e' fz) ∧ n ≤ c ∧ zs.length = c ∧ a.off + c ≤ cs'.size ∧ (∀ x ∈ zs, 0 ≤ x ∧ x < 256) ∧
      (∀ i x, (u8L zs)[i]? = some x → cs'[a.off + i]? = some x) ∧ ∃ ls ss, d = .slice ls ss ∧ ls.length + ss.length = c := by
  rcases slice_came ht hval with rfl | ⟨a, n, c, rfl, hs, hlt⟩
  · exact .inl rfl
  right
  obtain ⟨fuel, hf⟩ := hd
  rcases open_ints ht he hc hf with ⟨hx, _⟩ | ⟨a1, n1, c1, zs, hx, _, hl, _, hz, hdd, hcell, hwf⟩
  · cases hx
  · simp only [if_true] at hz
    have hx' : [Value.slice (some a) n c] = [Value.slice (some a1) n1 c1] := hx
    cases hx'
    have hrow : ∀ i, i < c → ∃ cs' e' fz, W.heap[a.block]? = some (.cells cs' e' fz) ∧ cs'[a.off + i]? = some (.int .u8 (zs.getD i 0)) := fun i hi => by
      have := hcell i (by omega)
      rw [addr_add hs] at this
      unfold World.cell? at this
      simp only [] at this
      cases hh : W.heap[a.block]? with
      | none => rw [hh] at this; cases this
      | some o =>
        rw [hh] at this
        cases o with
        | cells cs' e' fz => exact ⟨cs', e', fz, rfl, this⟩
        | _ => cases this
    have hblk : ∃ cs' e' fz, W.heap[a.block]? = some (.cells cs' e' fz) ∧ a.off + c ≤ cs'.size := by
      have h := hval
      simp only [Value.okWide, ht, Cell.okWide, Cell.ok, World.has] at h
      obtain ⟨_, _, _, hsp, row, cells, hsh, hlies⟩ := h
      unfold World.shape? at hsh
      cases hh : W.heap[a.block]? with
      | none => rw [hh] at hsh; cases hsh
      | some o =>
        rw [hh] at hsh
        cases o with
        | cells cs' e' fz =>
          simp only [Option.some.injEq, Prod.mk.injEq] at hsh
          obtain ⟨h1, h2⟩ := hsh
          subst h1 h2
          refine ⟨cs', e', fz, rfl, ?_⟩
          rcases Nat.eq_zero_or_pos c with hc0 | hc0
          · have h1 := liesAt_off hlies
            have h2 : cs'.size / P.cellsOf e' * P.cellsOf e' ≤ cs'.size := Nat.div_mul_le_self ..
            omega
          · obtain ⟨cs2, e2, fz2, g1, g2⟩ := hrow (c - 1) (by omega)
            rw [hh] at g1
            cases g1
            have := (Array.getElem?_eq_some_iff.1 g2).1
            omega
        | _ => cases hsh
    obtain ⟨cs', e', fz, hh, hle⟩ := hblk
    refine ⟨a, n, c, zs, cs', e', fz, rfl, hs, hh, hl, hz, hle, fun x hx => ?_, fun i x hx => ?_, _, _, congrArg Prod.fst hdd, ?_⟩
    · have := hwf x hx
      simp only [Lit.wf, Bool.and_eq_true, decide_eq_true_eq] at this
      have e1 : IntKind.u8.min = 0 := by decide
      have e2 : IntKind.u8.max = 255 := by decide
      rw [e1, e2] at this
      omega
    · obtain ⟨g1, rfl⟩ := u8L_get hx
      obtain ⟨cs2, e2, fz2, g2, g3⟩ := hrow i (by omega)
      rw [hh] at g2
      cases g2
      exact g3
    · simp [lits]; omega
end
end Go.Ev
