/- More operations, one by one. Holds for every program. -/
import Derived.Test.YtnfijnioclcnmaaDoorEvOps2
namespace Go.Ev
open Go
section
variable {P : Program} {κ : K}

theorem sr_makeSlice (hz : ZerosFlat P) (t : TypeId) {l l' c c' : Value} (hl : VR κ l l') (hc : VR κ c c') : SR P VR κ (Instr.makeSlice t l c) (Instr.makeSlice t l' c') := by
  unfold Instr.makeSlice
  refine SR.bind' (sr_underlying t) ?_
  rintro κ1 d _ hk rfl
  cases d with
  | slice e =>
    refine SR.bind' (sr_asInt (hl.mono hk)) ?_
    rintro κ2 len _ hk2 rfl
    refine SR.bind' (sr_asInt ((hc.mono hk).mono hk2)) ?_
    rintro κ3 cap _ hk3 rfl
    refine SR.bind' (sr_typeInfo e) ?_
    rintro κ4 ti _ hk4 rfl
    dsimp only
    split
    · refine .triv ?_
      split
      · exact dies_left (dies_runtimePanic _)
      · split
        · exact dies_left (dies_runtimePanic _)
        · exact dies_right fun _ => dies_left (dies_runtimePanic _)
    · refine SR.bind' (sr_askRoom _) ?_
      rintro κ5 _ _ hk5 rfl
      refine SR.bind' (sr_sizeOf e) ?_
      rintro κ6 sz _ hk6 rfl
      have fin : ∀ {κ : K} (z z' : Array Value), AR κ z z' → (z.size ≠ 0 ∨ (IntKind.i64.wrap cap).toNat * sz = 0) →
          SR P VR κ (do let a ← newRow e ((Array.range ((IntKind.i64.wrap cap).toNat * sz)).map (z[· % z.size]!)); pure (.slice (some a) (IntKind.i64.wrap len).toNat (IntKind.i64.wrap cap).toNat))
            (do let a ← newRow e ((Array.range ((IntKind.i64.wrap cap).toNat * sz)).map (z'[· % z'.size]!)); pure (.slice (some a) (IntKind.i64.wrap len).toNat (IntKind.i64.wrap cap).toNat)) := by
        intro κ z z' h hne
        refine SR.bind' (sr_newRow e (AR.rep h _ hne)) ?_
        intro κ7 a a' hk7 ha
        obtain ⟨h1, b, hb, rfl⟩ := ha
        exact .pure (.slice ⟨h1, rfl, b, hb, rfl, .inl ⟨rfl, rfl⟩⟩)
      by_cases hn : (IntKind.i64.wrap cap).toNat * sz = 0
      · rw [if_pos hn]
        exact fin #[] #[] .nil (.inr hn)
      · rw [if_neg hn]
        simp only [pure_bind]
        refine SR.bind' (sr_zeroValue hz e) ?_
        intro κ7 z z' hk7 hzz
        by_cases hzs : z.cells.size = 0
        · -- a zero value without cells, where cells are wanted: the program's own types exclude it; the rows are alike all the same
          have e1 : z.cells = #[] := Array.eq_empty_of_size_eq_zero hzs
          have e2 : z'.cells = #[] := Array.eq_empty_of_size_eq_zero (by have := (AR.cells hzz).size; omega)
          rw [e1, e2]
          refine SR.bind' (sr_newRow e ?_) ?_
          · exact VL.of_get (by simp) fun i v v' e e' => by rw [e] at e'; cases e'; exact VR.flat _ (by
              simp only [Array.getElem?_toList, Array.getElem?_map] at e
              cases hr : (Array.range ((IntKind.i64.wrap cap).toNat * sz))[i]? with
              | none => rw [hr] at e; simp at e
              | some x => rw [hr] at e; simp at e; rw [← e]; rfl)
          · intro κ8 a a' hk8 ha
            obtain ⟨h1, b, hb, rfl⟩ := ha
            exact .pure (.slice ⟨h1, rfl, b, hb, rfl, .inl ⟨rfl, rfl⟩⟩)
        · exact fin z.cells z'.cells (AR.cells hzz) (.inl hzs)
  | _ => exact .halt

theorem sr_typeAssert (hz : ZerosFlat P) {v v' : Value} (h : VR κ v v') (xt at_ : TypeId) (ok : Bool) : SR P VR κ (Instr.typeAssert v xt at_ ok) (Instr.typeAssert v' xt at_ ok) := by
  have hold : ∀ {κ : K} {v v' : Value}, VR κ v v' → SR P VR κ (pure (if ok then .tuple #[v, .bool true] else v) : Sem Value) (pure (if ok then .tuple #[v', .bool true] else v')) := by
    intro κ v v' h
    refine .pure ?_
    split
    · exact .tuple (.cons h (.cons (.bool _) .nil))
    · exact h
  have fail : ∀ {κ : K} (s d : Option TypeId) (m : String), SR P VR κ (if ok then (do pure (.tuple #[← zeroValue at_, .bool false]) : Sem Value) else runtimePanic (.typeAssertion s d at_ m)) (if ok then (do pure (.tuple #[← zeroValue at_, .bool false])) else runtimePanic (.typeAssertion s d at_ m)) := by
    intro κ s d m
    split
    · refine SR.bind' (sr_zeroValue hz at_) ?_
      intro κ1 z z' hk hzz
      exact .pure (.tuple (.cons hzz (.cons (.bool _) .nil)))
    · exact .triv (dies_runtimePanic _)
  unfold Instr.typeAssert
  dsimp only
  refine SR.bind' (sr_underlying at_) ?_
  rintro κ1 d _ hk rfl
  have hv := h.mono hk
  cases hv with
  | nilIface => cases d <;> exact fail _ _ _
  | iface hx =>
    rename_i t u u'
    have other : SR P VR κ1 (if t = at_ then (pure (if ok then .tuple #[u, .bool true] else u) : Sem Value) else (if ok then (do pure (.tuple #[← zeroValue at_, .bool false]) : Sem Value) else runtimePanic (.typeAssertion (some xt) (some t) at_ "")))
        (if t = at_ then (pure (if ok then .tuple #[u', .bool true] else u')) else (if ok then (do pure (.tuple #[← zeroValue at_, .bool false])) else runtimePanic (.typeAssertion (some xt) (some t) at_ ""))) := by
      split
      · exact hold hx
      · exact fail _ _ _
    cases d with
    | interface want =>
      refine SR.bind' (sr_typeInfo t) ?_
      rintro κ2 ti _ hk2 rfl
      cases Instr.missingMethod want ti.methods with
      | none => exact hold (.iface (hx.mono hk2))
      | some m => exact fail _ _ _
    | _ => exact other
  | _ => cases d <;> exact .halt

/-! ### len, copy -/

theorem sr_len (ats : Array TypeId) (t : TypeId) {as as' : Array Value} (h : AR κ as as') : SR P VR κ (Builtin.len_ ats t as) (Builtin.len_ ats t as') := by
  unfold Builtin.len_
  cases ht : ats[0]? with
  | none => exact .halt
  | some x =>
    rcases h.get 0 with ⟨h1, h2⟩ | ⟨v, v', h1, h2, h3⟩
    · simp only [h1, h2]; exact .halt
    simp only [h1, h2]
    refine SR.bind' (sr_underlying x) ?_
    rintro κ1 d _ hk rfl
    have hv := h3.mono hk
    cases d with
    | string => cases hv <;> first | exact .pure (.int _ _) | exact .halt
    | array n e => exact .pure (.int _ _)
    | pointer arr =>
      dsimp only
      refine SR.bind' (sr_underlying arr) ?_
      rintro κ2 d2 _ hk2 rfl
      cases d2 <;> first | exact .pure (.int _ _) | exact .halt
    | slice e => cases hv <;> first | exact .pure (.int _ _) | exact .halt
    | map a b =>
      cases hv with
      | mapNil => exact .pure (.int _ _)
      | map hb =>
        refine .getObj hb fun o o' ho => ?_
        cases ho with
        | map c he =>
          have : ∀ {l l' : List MapEntry}, EL κ1 l l' → l'.length = l.length := by
            intro l l' h; induction h with
            | nil => rfl
            | cons _ _ _ _ ih => simp [ih]
          show SR P VR κ1 (pure (goInt _)) (pure (goInt _))
          have hl := this he
          rename_i es es'
          have : (⟨es'⟩ : Array MapEntry).size = (⟨es⟩ : Array MapEntry).size := by simpa using hl
          rw [this]
          exact .pure (.int _ _)
        | _ => exact .halt
      | _ => exact .halt
    | chan a b =>
      cases hv with
      | chanNil => exact .pure (.int _ _)
      | _ => exact .halt
    | _ => cases hv <;> exact .halt

theorem sr_lenOf {v v' : Value} (h : VR κ v v') : SR P EqR κ (Builtin.lenOf v) (Builtin.lenOf v') := by
  cases h <;> first | exact .pure rfl | exact .halt
theorem bytes_flat (l : List UInt8) : flatL (l.map fun b => Value.int .u8 b.toNat) = true := flatL_of fun v hv => by
  obtain ⟨b, _, rfl⟩ := List.mem_map.1 hv; rfl
theorem sr_firstCells (size n : Nat) {v v' : Value} (h : VR κ v v') (hn : ∀ a m c, v = .slice (some a) m c → m ≠ 0 ∨ n * size = 0) : SR P AR κ (Builtin.firstCells size n v) (Builtin.firstCells size n v') := by
  cases h with
  | slice hs =>
    rename_i a a' m c c'
    by_cases h0 : n * size = 0
    · show SR P AR κ (loadCells a (n * size)) (loadCells a' (n * size))
      rw [h0]
      exact .pure .nil
    · exact sr_loadCells (hs.addr ((hn a m c rfl).resolve_right h0)) _
  | sliceNil _ _ => exact .pure .nil
  | string s =>
    refine .pure ?_
    show VL κ (Array.map _ _).toList (Array.map _ _).toList
    rw [Array.toList_map]
    exact VL.flat _ (bytes_flat _)
  | _ => exact .halt
def copyRest (e : TypeId) (u : Value) (b : Option Addr) (dl : Nat) : Sem Value := do
  let n := Nat.min (← Builtin.lenOf u) dl
  let cells ← Builtin.firstCells (← sizeOf e) n u
  if let some a := b then storeCells a cells.toList
  pure (goInt n)
theorem sr_copy (ats : Array TypeId) (t : TypeId) {as as' : Array Value} (h : AR κ as as') : SR P VR κ (Builtin.copy_ ats t as) (Builtin.copy_ ats t as') := by
  unfold Builtin.copy_
  cases ht : ats[0]? with
  | none => exact .halt
  | some x =>
    rcases h.get 0 with ⟨h1, h2⟩ | ⟨v, v', h1, h2, h3⟩
    · simp only [h1, h2]; exact .halt
    rcases h.get 1 with ⟨g1, g2⟩ | ⟨u, u', g1, g2, g3⟩
    · simp only [h1, h2, g1, g2]; exact .halt
    simp only [h1, h2, g1, g2]
    refine SR.bind' (sr_underlying x) ?_
    rintro κ1 d _ hk rfl
    cases d with
    | slice e =>
      dsimp only
      have hv := h3.mono hk
      have hu := g3.mono hk
      have go : ∀ (b b' : Option Addr) (dl : Nat), (b = none ∧ b' = none ∨ ∃ a a', b = some a ∧ b' = some a' ∧ (dl ≠ 0 → AddrR κ1 a a')) →
          SR P VR κ1 (copyRest e u b dl) (copyRest e u' b' dl) := by
        intro b b' dl hb
        unfold copyRest
        refine SR.bind' (R := fun κ' (a b : Nat) => κ' = κ1 ∧ a = b ∧ (∀ x m c, u = .slice (some x) m c → a = m)) ?_ ?_
        · cases hu with
          | slice hs => exact .pure ⟨rfl, rfl, fun _ _ _ e => (by cases e; rfl)⟩
          | sliceNil n c => exact .pure ⟨rfl, rfl, fun _ _ _ e => (by cases e)⟩
          | string s => exact .pure ⟨rfl, rfl, fun _ _ _ e => (by cases e)⟩
          | _ => exact .halt
        rintro κ2 ul _ hk2 ⟨rfl, rfl, hul⟩
        dsimp only
        refine SR.bind' (sr_sizeOf e) ?_
        rintro κ3 sz _ hk3 rfl
        refine SR.bind' (R := fun κ' a b => κ3.le κ' ∧ AR κ' a b ∧ (dl = 0 → a = #[] ∧ b = #[])) ?_ ?_
        · by_cases hd : dl = 0
          · subst hd
            have hm : Nat.min ul 0 = 0 := Nat.min_zero ul
            rw [hm]
            cases hu with
            | slice hs =>
              · have e1 : ∀ (x : Addr) (m c : Nat), Builtin.firstCells sz 0 (.slice (some x) m c) = pure #[] := fun x m c => by
                  show loadCells x (0 * sz) = _
                  rw [Nat.zero_mul]; rfl
                rw [e1, e1]
                exact .pure ⟨K.le_refl _, .nil, fun _ => ⟨rfl, rfl⟩⟩
            | sliceNil _ _ => exact .pure ⟨K.le_refl _, .nil, fun _ => ⟨rfl, rfl⟩⟩
            | string s =>
              have e1 : Builtin.firstCells sz 0 (.string s) = pure #[] := by
                show pure _ = pure _
                congr 1
                apply Array.eq_empty_of_size_eq_zero
                simp
              rw [e1]
              exact .pure ⟨K.le_refl _, .nil, fun _ => ⟨rfl, rfl⟩⟩
            | _ => exact .halt
          · have h := SR.bind' (f := Sem.pure) (f' := Sem.pure) (R' := fun κ' a b => κ3.le κ' ∧ AR κ' a b ∧ (dl = 0 → a = #[] ∧ b = #[])) (sr_firstCells (P := P) (κ := κ3) sz (Nat.min ul dl) (hu.mono hk3) fun x m c e => by
                rw [← hul x m c e]
                by_cases h0 : ul = 0
                · right; subst h0; simp
                · exact .inl h0) (fun κ4 a b hk4 hab => .pure ⟨hk4, hab, fun e => absurd e hd⟩)
            have e1 : ∀ s : Sem (Array Value), s >>= Sem.pure = s := fun s => Sem.bind_pure' s
            rw [e1, e1] at h
            exact h
        rintro κ4 cs cs' _ ⟨hk4, hcs, hemp⟩
        rcases hb with ⟨rfl, rfl⟩ | ⟨a, a', rfl, rfl, ha⟩
        · exact .pure (.int _ _)
        · dsimp only
          by_cases hd : dl = 0
          · obtain ⟨rfl, rfl⟩ := hemp hd
            exact .pure (.int _ _)
          · refine SR.bind' (sr_storeCells (((ha hd).mono hk3).mono hk4) 0 hcs) ?_
            rintro κ5 _ _ hk5 rfl
            exact .pure (.int _ _)
      cases hv with
      | sliceNil n c => exact go none none n (.inl ⟨rfl, rfl⟩)
      | slice hs => exact go _ _ _ (.inr ⟨_, _, rfl, rfl, fun hn => hs.addr hn⟩)
      | _ => exact .halt
    | _ => exact .halt
end
end Go.Ev
