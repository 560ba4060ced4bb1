/- Maps, literals, comparisons with nil. Holds for every program. -/
import Derived.Test.YtnfijnioclcnmaaDoorEvOps3
namespace Go.Ev
open Go
section
variable {P : Program} {κ : K}

/-! ### literals -/

inductive PL (κ : K) : List (Nat × Value) → List (Nat × Value) → Prop
  | nil : PL κ [] []
  | cons {i : Nat} {v v' : Value} {l l' : List (Nat × Value)} : VR κ v v' → PL κ l l' → PL κ ((i, v) :: l) ((i, v') :: l')
theorem PL.mono {κ κ' : K} (hk : κ.le κ') {l l' : List (Nat × Value)} (h : PL κ l l') : PL κ' l l' := by
  induction h with
  | nil => exact .nil
  | cons h1 _ ih => exact .cons (h1.mono hk) ih

theorem fold_rel (off : Nat) {l l' : List Value} (h : VL κ l l') : ∀ (j : Nat) {a a' : Array Value}, AR κ a a' →
    AR κ ((l.zipIdx j).foldl (fun cs (x : Value × Nat) => cs.setIfInBounds (off + x.2) x.1) a) ((l'.zipIdx j).foldl (fun cs (x : Value × Nat) => cs.setIfInBounds (off + x.2) x.1) a') := by
  induction l generalizing l' with
  | nil => cases h; intro j a a' ha; exact ha
  | cons x l ih => cases h with
    | cons h1 h2 => intro j a a' ha; exact ih h2 (j + 1) (ha.set h1 _)
theorem fill_rel (place : Nat → Option (Nat × Nat)) {ps ps' : List (Nat × Value)} (h : PL κ ps ps') : ∀ {a a' : Array Value}, AR κ a a' →
    (Instr.fill place a ps = none) ∨ ∃ b b', Instr.fill place a ps = some b ∧ Instr.fill place a' ps' = some b' ∧ AR κ b b' := by
  induction h with
  | nil => intro a a' ha; exact .inr ⟨a, a', rfl, rfl, ha⟩
  | @cons i v v' l l' hv hl ih =>
    intro a a' ha
    have hc := AR.cells hv
    simp only [Instr.fill]
    cases place i with
    | none => exact .inl rfl
    | some os =>
      obtain ⟨off, size⟩ := os
      simp only []
      rw [hc.size, ha.size]
      split
      · exact .inl rfl
      · have hf := fold_rel off hc 0 ha
        have e : ∀ (v : Value) (a : Array Value), Array.foldl (fun cs (x : Value × Nat) => cs.setIfInBounds (off + x.2) x.1) a v.cells.zipIdx = (v.cells.toList.zipIdx 0).foldl (fun cs (x : Value × Nat) => cs.setIfInBounds (off + x.2) x.1) a := fun v a => by
          rw [← Array.foldl_toList, Array.toList_zipIdx]
        have := ih hf
        rw [← e, ← e] at this
        exact this

theorem q_mapM_list {α β : Type} (f : α → Sem β) (hf : ∀ a, isq P (f a)) : ∀ l : List α, isq P (l.mapM f)
  | [] => by simp only [List.mapM_nil]; trivial
  | a :: l => by
    simp only [List.mapM_cons]
    exact isq_bind' (hf a) fun b => isq_bind' (q_mapM_list f hf l) fun bs => trivial
theorem q_mapM {α β : Type} (f : α → Sem β) (hf : ∀ a, isq P (f a)) (l : Array α) : isq P (l.mapM f) := by
  rw [Array.mapM_eq_mapM_toList]
  exact isq_bind (q_mapM_list f hf l.toList) fun bs => trivial

theorem sr_build (hz : ZerosFlat P) (t : TypeId) {ps ps' : Array (Nat × Value)} (h : PL κ ps.toList ps'.toList) : SR P VR κ (Instr.build t ps) (Instr.build t ps') := by
  unfold Instr.build
  refine SR.bind' (sr_zeroValue hz t) ?_
  intro κ1 z z' hk hzz
  dsimp only
  refine SR.bind' (sr_underlying t) ?_
  rintro κ2 d _ hk2 rfl
  have hc := AR.mono hk2 (AR.cells hzz)
  cases d with
  | struct fields =>
    dsimp only
    refine SR.bind' (sr_isq (q_mapM (fun (f : Field) => do pure (f.offset, ← sizeOf f.type)) (fun f => isq_bind' (q_sizeOf _) fun _ => trivial) fields)) ?_
    rintro κ3 places _ hk3 rfl
    rcases fill_rel (fun x => places[x]?) (((h.mono hk).mono hk2).mono hk3) (hc.mono hk3) with e | ⟨b, b', e1, e2, e3⟩
    · rw [e]; exact .halt
    · rw [e1, e2]; exact .pure (VR.aggA e3)
  | array n e =>
    dsimp only
    refine SR.bind' (sr_sizeOf e) ?_
    rintro κ3 sz _ hk3 rfl
    rcases fill_rel (fun i => some (i * sz, sz)) (((h.mono hk).mono hk2).mono hk3) (hc.mono hk3) with e | ⟨b, b', e1, e2, e3⟩
    · rw [e]; exact .halt
    · rw [e1, e2]; exact .pure (VR.aggA e3)
  | _ => exact .halt

theorem AR.rep' {z z' : Array Value} (h : AR κ z z') (n : Nat) : AR κ ((Array.range n).map (z[· % z.size]!)) ((Array.range n).map (z'[· % z'.size]!)) := by
  by_cases hz : z.size ≠ 0
  · exact h.rep n (.inl hz)
  · have hz0 : z.size = 0 := by omega
    have e1 : z = #[] := Array.eq_empty_of_size_eq_zero hz0
    have e2 : z' = #[] := Array.eq_empty_of_size_eq_zero (by have := h.size; omega)
    rw [e1, e2]
    refine VL.of_get (by simp) fun i v v' e e' => ?_
    rw [e] at e'; cases e'
    refine VR.flat _ ?_
    simp only [Array.getElem?_toList, Array.getElem?_map] at e
    cases hr : (Array.range n)[i]? with
    | none => rw [hr] at e; simp at e
    | some x => rw [hr] at e; simp at e; rw [← e]; rfl

def buildRow (e : TypeId) (len sz : Nat) (z : Array Value) (ps : Array (Nat × Value)) : Sem Value := do
  let some cells := Instr.fill (fun i => some (i * sz, sz)) ((Array.range (len * sz)).map (z[· % z.size]!)) ps.toList
    | stuck "buildSlice: a part of the wrong size"
  pure (.slice (some (← newRow e cells)) len len)
theorem sr_buildSlice (hz : ZerosFlat P) (t : TypeId) (len : Nat) {ps ps' : Array (Nat × Value)} (h : PL κ ps.toList ps'.toList) : SR P VR κ (Instr.buildSlice t len ps) (Instr.buildSlice t len ps') := by
  unfold Instr.buildSlice
  refine SR.bind' (sr_underlying t) ?_
  rintro κ1 d _ hk rfl
  cases d with
  | slice e =>
    dsimp only
    refine SR.bind' (sr_sizeOf e) ?_
    rintro κ2 sz _ hk2 rfl
    split
    · exact .triv (dies_left fun _ => rfl)
    have fin : ∀ {κ3 : K} (z z' : Array Value), κ2.le κ3 → AR κ3 z z' →
        SR P VR κ3 (buildRow e len sz z ps) (buildRow e len sz z' ps') := by
      intro κ3 z z' hk3 hzz
      unfold buildRow
      rcases fill_rel (fun i => some (i * sz, sz)) (((h.mono hk).mono hk2).mono hk3) (hzz.rep' (len * sz)) with e0 | ⟨b, b', e1, e2, e3⟩
      · rw [e0]; exact .halt
      · rw [e1, e2]
        refine SR.bind' (sr_newRow e e3) ?_
        intro κ4 a a' hk4 ha
        obtain ⟨h1, b, hb, rfl⟩ := ha
        exact .pure (.slice ⟨h1, rfl, b, hb, rfl, .inl ⟨rfl, rfl⟩⟩)
    split
    · exact fin #[] #[] (K.le_refl _) .nil
    · simp only [pure_bind]
      refine SR.bind' (sr_zeroValue hz e) ?_
      intro κ3 z z' hk3 hzz
      exact fin _ _ hk3 (AR.cells hzz)
  | _ => exact .halt

/-! ### maps, keyed by numbers, texts and bools -/

def plainKey : Value → Bool
  | .string _ | .int _ _ | .bool _ => true
  | _ => false
def plainKind (P : Program) (t : TypeId) : Bool :=
  match P.underlying t with
  | some .string | some (.int _) | some .bool => true
  | _ => false
/-- The type is a map's, and its keys are plain. -/
def MapOk (P : Program) (t : TypeId) : Prop := ∀ k e, P.underlying t = some (.map k e) → plainKind P k = true

theorem plain_rel {v v' : Value} (h : VR κ v v') (hp : plainKey v = true) : v' = v := by
  cases h <;> first | rfl | (simp [plainKey] at hp; done)
theorem sr_checkKey (b : Bool) (n : Nat) (t : TypeId) {v : Value} (hp : plainKey v = true) : SR P EqR κ (Instr.checkKey b n t v) (Instr.checkKey b n t v) := by
  cases n with
  | zero => exact .halt
  | succ n =>
    unfold Instr.checkKey
    refine SR.bind' (sr_underlying t) ?_
    rintro κ1 d _ hk rfl
    cases v <;> simp only [plainKey, Bool.false_eq_true] at hp <;> cases d <;> first | exact .pure rfl | exact .halt

theorem sr_equal_plain (t : TypeId) {k x x' : Value} (hp : plainKey k = true) (hx : VR κ x x') (ht : plainKind P t = true) : SR P EqR κ (Op.equal t k x) (Op.equal t k x') := by
  unfold Op.equal Op.maxDepth Op.equalIn
  refine SR.bind' (sr_underlying' t) ?_
  rintro κ1 d _ hk ⟨rfl, hd⟩
  simp only [plainKind, hd] at ht
  cases d with
  | string => cases k <;> simp only [plainKey, Bool.false_eq_true] at hp <;> cases hx <;> first | exact .pure rfl | exact .halt
  | bool => cases k <;> simp only [plainKey, Bool.false_eq_true] at hp <;> cases hx <;> first | exact .pure rfl | exact .halt
  | int ik =>
    cases k with
    | int kk n =>
      cases hx with
      | int k2 n2 => dsimp only; split; exact .pure rfl; exact .halt
      | ptr h =>
        rcases n with (_ | n) | n
        · exact .pure rfl
        · exact .halt
        · exact .halt
      | _ => exact .halt
    | _ => simp only [plainKey, Bool.false_eq_true] at hp <;> cases hx <;> exact .halt
  | _ => simp at ht

inductive FR (κ : K) : Option (Nat × Value) → Option (Nat × Value) → Prop
  | none : FR κ none none
  | some {i : Nat} {v v' : Value} : VR κ v v' → FR κ (some (i, v)) (some (i, v'))
theorem FR.mono {κ κ' : K} (hk : κ.le κ') {a b : Option (Nat × Value)} (h : FR κ a b) : FR κ' a b := by
  cases h with
  | none => exact .none
  | some h => exact .some (h.mono hk)
theorem sr_findAsking (t : TypeId) {k : Value} (hp : plainKey k = true) (ht : plainKind P t = true) : ∀ {κ : K} {es es' : List MapEntry}, EL κ es es' → ∀ i, SR P FR κ (Instr.findAsking t k es i) (Instr.findAsking t k es' i) := by
  intro κ es
  induction es generalizing κ with
  | nil => intro es' h i; cases h; exact .pure .none
  | cons e es ih =>
    intro es' h i
    cases h with
    | cons h1 h2 h3 hl =>
      unfold Instr.findAsking
      refine SR.bind' (sr_equal_plain t hp h1 ht) ?_
      rintro κ1 c _ hk rfl
      cases c with
      | true => exact .pure (.some (h2.mono hk))
      | false => exact ih (hl.mono hk) (i + 1)
theorem sameNow_rel (d : TypeDesc) {k x x' : Value} (hp : plainKey k = true) (hx : VR κ x x') : Instr.sameNow d k x' = Instr.sameNow d k x := by
  cases hx <;> first | rfl | (cases k <;> simp only [plainKey, Bool.false_eq_true] at hp <;> cases d <;> rfl)
theorem findNow_rel (d : TypeDesc) {k : Value} (hp : plainKey k = true) {es es' : List MapEntry} (h : EL κ es es') : ∀ i,
    (Instr.findNow d k es i = none ∧ Instr.findNow d k es' i = none) ∨ ∃ r r', Instr.findNow d k es i = some r ∧ Instr.findNow d k es' i = some r' ∧ FR κ r r' := by
  induction h with
  | nil => intro i; exact .inr ⟨none, none, rfl, rfl, .none⟩
  | cons h1 h2 h3 hl ih =>
    intro i
    simp only [Instr.findNow, sameNow_rel d hp h1]
    cases Instr.sameNow d k _ with
    | none => exact .inl ⟨rfl, rfl⟩
    | some b => cases b with
      | true => exact .inr ⟨_, _, rfl, rfl, .some h2⟩
      | false => exact ih (i + 1)

theorem sr_findKey (t : TypeId) {k : Value} (hp : plainKey k = true) (ht : plainKind P t = true) {es es' : List MapEntry} (h : EL κ es es') : SR P FR κ (Instr.findKey t k es) (Instr.findKey t k es') := by
  unfold Instr.findKey
  refine SR.bind' (sr_underlying t) ?_
  rintro κ1 d _ hk rfl
  rcases findNow_rel d hp (h.mono hk) 0 with ⟨e1, e2⟩ | ⟨r, r', e1, e2, hr⟩
  · rw [e1, e2]; exact sr_findAsking t hp ht (h.mono hk) 0
  · rw [e1, e2]; exact .pure hr

theorem EL.length {l l' : List MapEntry} (h : EL κ l l') : l'.length = l.length := by
  induction h with
  | nil => rfl
  | cons _ _ _ _ ih => simp [ih]
theorem EL.append {l l' m m' : List MapEntry} (h : EL κ l l') (h' : EL κ m m') : EL κ (l ++ m) (l' ++ m') := by
  induction h with
  | nil => exact h'
  | cons h1 h2 h3 _ ih => exact .cons h1 h2 h3 ih
theorem EL.push {l l' : List MapEntry} (h : EL κ l l') {e e' : MapEntry} (h1 : VR κ e.key e'.key) (h2 : VR κ e.val e'.val) (h3 : e'.born = e.born) :
    EL κ ((⟨l⟩ : Array MapEntry).push e).toList ((⟨l'⟩ : Array MapEntry).push e').toList := by
  simp only [Array.toList_push]; exact h.append (.cons h1 h2 h3 .nil)
theorem EL.get {l l' : List MapEntry} (h : EL κ l l') (i : Nat) : (l[i]? = none ∧ l'[i]? = none) ∨ ∃ e e', l[i]? = some e ∧ l'[i]? = some e' ∧ VR κ e.key e'.key ∧ VR κ e.val e'.val ∧ e'.born = e.born := by
  induction h generalizing i with
  | nil => simp
  | cons h1 h2 h3 _ ih => cases i with
    | zero => exact .inr ⟨_, _, rfl, rfl, h1, h2, h3⟩
    | succ i => simpa using ih i
theorem EL.modify {l l' : List MapEntry} (h : EL κ l l') (i : Nat) {f f' : MapEntry → MapEntry}
    (hf : ∀ e e', VR κ e.key e'.key → VR κ e.val e'.val → e'.born = e.born → VR κ (f e).key (f' e').key ∧ VR κ (f e).val (f' e').val ∧ (f' e').born = (f e).born) :
    EL κ (l.modify i f) (l'.modify i f') := by
  induction h generalizing i with
  | nil => cases i <;> exact .nil
  | cons h1 h2 h3 hl ih => cases i with
    | zero => have := hf _ _ h1 h2 h3; exact .cons this.1 this.2.1 this.2.2 hl
    | succ i => exact .cons h1 h2 h3 (ih i)
theorem EL.erase {l l' : List MapEntry} (h : EL κ l l') (i : Nat) : EL κ (l.eraseIdx i) (l'.eraseIdx i) := by
  induction h generalizing i with
  | nil => exact .nil
  | cons h1 h2 h3 hl ih => cases i with
    | zero => exact hl
    | succ i => exact .cons h1 h2 h3 (ih i)

def lookRest (kt e : TypeId) (es : Array MapEntry) (k : Value) (ok : Bool) : Sem Value := do
  Instr.checkKey es.isEmpty 10000 kt k
  let (v, ok') ← match ← Instr.findKey kt k es.toList with
    | some (_, v) => pure (v, true)
    | none => pure (← zeroValue e, false)
  pure (if ok then .tuple #[v, .bool ok'] else v)
theorem sr_lookup (hz : ZerosFlat P) (t : TypeId) (hm : MapOk P t) {v v' k : Value} (h : VR κ v v') (hp : plainKey k = true) (ok : Bool) : SR P VR κ (Instr.lookup t v k ok) (Instr.lookup t v' k ok) := by
  unfold Instr.lookup
  refine SR.bind' (sr_underlying' t) ?_
  rintro κ1 d _ hk ⟨rfl, hd⟩
  cases d with
  | map kt e =>
    have hkt := hm kt e hd
    dsimp only
    have fin : ∀ {κ : K} (es es' : Array MapEntry), EL κ es.toList es'.toList → SR P VR κ (lookRest kt e es k ok) (lookRest kt e es' k ok) := by
      intro κ es es' h
      unfold lookRest
      have : es'.isEmpty = es.isEmpty := by
        have := h.length
        simp only [Array.length_toList] at this
        simp [Array.isEmpty, this]
      rw [this]
      refine SR.bind' (sr_checkKey _ _ _ hp) ?_
      rintro κ2 _ _ hk2 rfl
      refine SR.bind' (sr_findKey kt hp hkt (h.mono hk2)) ?_
      intro κ3 r r' hk3 hr
      have out : ∀ {κ : K} {x x' : Value} (b : Bool), VR κ x x' → SR P VR κ (pure (if ok then .tuple #[x, .bool b] else x) : Sem Value) (pure (if ok then .tuple #[x', .bool b] else x')) := by
        intro κ x x' b hx
        refine .pure ?_
        split
        · exact .tuple (.cons hx (.cons (.bool _) .nil))
        · exact hx
      cases hr with
      | none =>
        simp only [pure_bind]
        refine SR.bind' (sr_zeroValue hz e) ?_
        intro κ4 z z' hk4 hzz
        exact out _ hzz
      | some hv => exact out _ hv
    have hv := h.mono hk
    cases hv with
    | mapNil => exact fin #[] #[] .nil
    | map hb =>
      refine .getObj hb fun o o' ho => ?_
      cases ho with
      | map c he => exact fin _ _ he
      | _ => exact .halt
    | _ => exact .halt
  | _ => exact .halt
end
end Go.Ev
