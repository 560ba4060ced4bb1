/- Stores into maps, strings, comparisons with nil, calls. Holds for every program. -/
import Derived.Test.YtnfijnioclcnmaaDoorEvOps4
namespace Go.Ev
open Go
section
variable {P : Program} {κ : K}

theorem ObjR.mapA {es es' : Array MapEntry} (c : Nat) (h : EL κ es.toList es'.toList) : ObjR κ (.map es c) (.map es' c) := by
  obtain ⟨es⟩ := es; obtain ⟨es'⟩ := es'; exact .map c h
theorem sr_choose {α β : Type} {R : K → α → β → Prop} (q : Question) {f : Nat → Sem α} {f' : Nat → Sem β} (h : q.forced = true → SR P R κ (f 0) (f' 0)) : SR P R κ (choose q >>= f) (choose q >>= f') :=
  SR.choose h
theorem sameBits_rel {o o' n : Value} (ho : VR κ o o') (hp : plainKey n = true) (d : Nat) : Instr.sameBits d o' n = Instr.sameBits d o n := by
  cases ho <;> first | rfl | (cases n <;> simp only [plainKey, Bool.false_eq_true] at hp <;> cases d <;> rfl)
theorem sr_keyThatStays {o o' n : Value} (ho : VR κ o o') (hp : plainKey n = true) : SR P VR κ (Instr.keyThatStays o n) (Instr.keyThatStays o' n) := by
  unfold Instr.keyThatStays
  rw [sameBits_rel ho hp]
  split
  · exact .pure (VR.flat n (by cases n <;> simp_all [plainKey, flatV]))
  · exact sr_choose _ fun h => by cases h
theorem flat_plain {k : Value} (hp : plainKey k = true) : flatV k = true := by
  cases k <;> simp_all [plainKey, flatV]
theorem key_get {es es' : List MapEntry} (h : EL κ es es') (i : Nat) {k : Value} (hp : plainKey k = true) :
    VR κ (((⟨es⟩ : Array MapEntry)[i]?.map (·.key)).getD k) (((⟨es'⟩ : Array MapEntry)[i]?.map (·.key)).getD k) := by
  rcases h.get i with ⟨h1, h2⟩ | ⟨e, e', h1, h2, h3, _⟩
  · simp only [List.getElem?_toArray, h1, h2, Option.map_none, Option.getD_none]; exact VR.flat k (flat_plain hp)
  · simp only [List.getElem?_toArray, h1, h2, Option.map_some, Option.getD_some]; exact h3

theorem sr_mapUpdate (t : TypeId) (hm : MapOk P t) {v v' k x x' : Value} (h : VR κ v v') (hp : plainKey k = true) (hx : VR κ x x') : SR P EqR κ (Instr.mapUpdate t v k x) (Instr.mapUpdate t v' k x') := by
  unfold Instr.mapUpdate
  refine SR.bind' (sr_underlying' t) ?_
  rintro κ1 d _ hk ⟨rfl, hd⟩
  cases d with
  | map kt e =>
    have hkt := hm kt e hd
    have hv := h.mono hk
    have hx1 := hx.mono hk
    dsimp only
    cases hv with
    | mapNil => exact .triv (dies_runtimePanic _)
    | map hb =>
      refine .getObj hb fun o o' ho => ?_
      cases ho with
      | map c he =>
        rename_i es es'
        show SR P EqR κ1 (Instr.checkKey false 10000 kt k >>= _) (Instr.checkKey false 10000 kt k >>= _)
        refine SR.bind' (sr_checkKey _ _ _ hp) ?_
        rintro κ2 _ _ hk2 rfl
        refine SR.bind' (sr_findKey kt hp hkt (he.mono hk2)) ?_
        intro κ3 r r' hk3 hr
        have he3 := (he.mono hk2).mono hk3
        have hb3 := hk3 _ _ (hk2 _ _ hb)
        cases hr with
        | none => exact .setObj hb3 (.map _ (he3.push (VR.flat k (flat_plain hp)) ((hx1.mono hk2).mono hk3) rfl)) (.pure rfl)
        | some hv =>
          rename_i i _ _
          refine SR.bind' (sr_keyThatStays (key_get he3 i hp) hp) ?_
          intro κ4 k1 k1' hk4 hkk
          refine .setObj (hk4 _ _ hb3) (ObjR.mapA c ?_) (.pure rfl)
          have := (he3.mono hk4).modify i (f := fun e => { e with key := k1, val := x }) (f' := fun e => { e with key := k1', val := x' }) fun e e' _ _ h3 => ⟨hkk, ((hx1.mono hk2).mono hk3).mono hk4, h3⟩
          simpa using this
      | _ => exact .halt
    | _ => exact .halt
  | _ => exact .halt

theorem sr_mapEntry (hz : ZerosFlat P) (t : TypeId) (hm : MapOk P t) {v v' k : Value} (h : VR κ v v') (hp : plainKey k = true) : SR P VR κ (Instr.mapEntry t v k) (Instr.mapEntry t v' k) := by
  unfold Instr.mapEntry
  refine SR.bind' (sr_underlying' t) ?_
  rintro κ1 d _ hk ⟨rfl, hd⟩
  cases d with
  | map kt e =>
    have hkt := hm kt e hd
    have hv := h.mono hk
    dsimp only
    cases hv with
    | mapNil => exact .triv (dies_runtimePanic _)
    | map hb =>
      refine .getObj hb fun o o' ho => ?_
      cases ho with
      | map c he =>
        rename_i es es'
        show SR P VR κ1 (Instr.checkKey false 10000 kt k >>= _) (Instr.checkKey false 10000 kt k >>= _)
        refine SR.bind' (sr_checkKey _ _ _ hp) ?_
        rintro κ2 _ _ hk2 rfl
        refine SR.bind' (sr_findKey kt hp hkt (he.mono hk2)) ?_
        intro κ3 r r' hk3 hr
        have he3 := (he.mono hk2).mono hk3
        have hb3 := hk3 _ _ (hk2 _ _ hb)
        cases hr with
        | none =>
          dsimp only
          refine SR.bind' (sr_zeroValue hz e) ?_
          intro κ4 z z' hk4 hzz
          refine .setObj (hk4 _ _ hb3) (.map _ ((he3.mono hk4).push (VR.flat k (flat_plain hp)) hzz rfl)) ?_
          exact .pure (.tuple (.cons hzz (.cons (.int _ _) .nil)))
        | some hv =>
          rename_i i _ _
          dsimp only
          refine SR.bind' (sr_keyThatStays (key_get he3 i hp) hp) ?_
          intro κ4 k1 k1' hk4 hkk
          refine .setObj (hk4 _ _ hb3) (ObjR.mapA c ?_) ?_
          · have := (he3.mono hk4).modify i (f := fun e => { e with key := k1 }) (f' := fun e => { e with key := k1' }) fun e e' _ h2 h3 => ⟨hkk, h2, h3⟩
            simpa using this
          · have hb : ((((⟨es'⟩ : Array MapEntry)[i]?).map (fun x => (x.born : Int))).getD 0) = ((((⟨es⟩ : Array MapEntry)[i]?).map (fun x => (x.born : Int))).getD 0) := by
              rcases he3.get i with ⟨h1, h2⟩ | ⟨e, e', h1, h2, _, _, h3⟩
              · simp [h1, h2]
              · simp [h1, h2, h3]
            show SR P VR κ4 (pure (.tuple #[_, goInt _])) (pure (.tuple #[_, goInt _]))
            rw [hb]
            exact .pure (.tuple (.cons (hv.mono hk4) (.cons (.int _ _) .nil)))
      | _ => exact .halt
    | _ => exact .halt
  | _ => exact .halt

theorem find_born {es es' : List MapEntry} (h : EL κ es es') (b : Int) : es'.findIdx? (fun e => (e.born : Int) == b) = es.findIdx? (fun e => (e.born : Int) == b) := by
  induction h with
  | nil => rfl
  | cons h1 h2 h3 hl ih => simp only [List.findIdx?_cons, h3, ih]
theorem sr_entryStore (t : TypeId) {v v' s s' x x' : Value} (h : VR κ v v') (hs : VR κ s s') (hx : VR κ x x') : SR P EqR κ (Instr.entryStore t v s x) (Instr.entryStore t v' s' x') := by
  unfold Instr.entryStore
  cases h with
  | map hb =>
    refine .getObj hb fun o o' ho => ?_
    cases ho with
    | map c he =>
      rename_i es es'
      show SR P EqR κ (asInt s >>= _) (asInt s' >>= _)
      refine SR.bind' (sr_asInt hs) ?_
      rintro κ1 b _ hk rfl
      have := find_born he b
      rw [show (⟨es⟩ : Array MapEntry) = es.toArray from rfl, show (⟨es'⟩ : Array MapEntry) = es'.toArray from rfl, List.findIdx?_toArray, List.findIdx?_toArray, this]
      cases List.findIdx? (fun e => (e.born : Int) == b) es with
      | none => exact .halt
      | some i =>
        refine .setObj (hk _ _ hb) (ObjR.mapA c ?_) (.pure rfl)
        have := (he.mono hk).modify i (f := fun e => { e with val := x }) (f' := fun e => { e with val := x' }) fun e e' h1 _ h3 => ⟨h1, hx.mono hk, h3⟩
        simpa using this
    | _ => exact .halt
  | _ => exact .halt

theorem sr_delete (ats : Array TypeId) (t : TypeId) {as as' : Array Value} (h : AR κ as as') (hm : ∀ x, ats[0]? = some x → MapOk P x) (hp : ∀ k, as[1]? = some k → plainKey k = true) :
    SR P VR κ (Builtin.delete_ ats t as) (Builtin.delete_ ats t as') := by
  unfold Builtin.delete_
  cases ht : ats[0]? with
  | none => exact .halt
  | some x =>
    rcases h.get 0 with ⟨h1, h2⟩ | ⟨v, v', h1, h2, h3⟩
    · simp only [h1, h2]; exact .halt
    rcases h.get 1 with ⟨g1, g2⟩ | ⟨u, u', g1, g2, g3⟩
    · simp only [h1, h2, g1, g2]; exact .halt
    have hpu := hp u g1
    obtain rfl := plain_rel g3 hpu
    simp only [h1, h2, g1, g2]
    refine SR.bind' (sr_underlying' x) ?_
    rintro κ1 d _ hk ⟨rfl, hd⟩
    cases d with
    | map kt e =>
      have hkt := hm x ht kt e hd
      have hv := h3.mono hk
      dsimp only
      have unit : ∀ {κ : K}, SR P VR κ (pure (.tuple #[]) : Sem Value) (pure (.tuple #[])) := .pure (.tuple .nil)
      cases hv with
      | mapNil => exact SR.bind' (sr_checkKey _ _ _ hpu) fun _ _ _ _ _ => unit
      | map hb =>
        refine .getObj hb fun o o' ho => ?_
        cases ho with
        | map c he =>
          rename_i es es'
          have hemp : (⟨es'⟩ : Array MapEntry).isEmpty = (⟨es⟩ : Array MapEntry).isEmpty := by
            have := he.length
            cases es <;> cases es' <;> simp_all
          show SR P VR κ1 (Instr.checkKey (⟨es⟩ : Array MapEntry).isEmpty 10000 kt u' >>= _) (Instr.checkKey (⟨es'⟩ : Array MapEntry).isEmpty 10000 kt u' >>= _)
          rw [hemp]
          refine SR.bind' (sr_checkKey _ _ _ hpu) ?_
          rintro κ2 _ _ hk2 rfl
          refine SR.bind' (sr_findKey kt hpu hkt (he.mono hk2)) ?_
          intro κ3 r r' hk3 hr
          have he3 := (he.mono hk2).mono hk3
          have hb3 := hk3 _ _ (hk2 _ _ hb)
          cases hr with
          | none => exact .setObj hb3 (.map c he3) unit
          | some hv =>
            refine .setObj hb3 (ObjR.mapA c ?_) unit
            rename_i i _ _
            have e1 : ∀ l : List MapEntry, (⟨l⟩ : Array MapEntry).eraseIdxIfInBounds i = ⟨l.eraseIdx i⟩ := fun l => by
              unfold Array.eraseIdxIfInBounds
              split
              · simp
              · rename_i hn; rw [List.eraseIdx_of_length_le (by simpa using hn)]
            rw [e1, e1]
            exact he3.erase i
        | _ => exact .halt
      | _ => exact .halt
    | _ => exact .halt

/-! ### iterators over texts, bytes as a text -/

theorem sr_range (t : TypeId) {v v' : Value} (h : VR κ v v') (hn : ∀ m, v ≠ .map (some m)) : SR P VR κ (Instr.range t v) (Instr.range t v') := by
  unfold Instr.range
  refine SR.bind' (sr_underlying t) ?_
  rintro κ1 d _ hk rfl
  have hv := h.mono hk
  have out : ∀ {κ : K} {o o' : Obj}, ObjR κ o o' → SR P VR κ (do pure (.pointer (some ⟨← newObj o, 0, none⟩)) : Sem Value) (do pure (.pointer (some ⟨← newObj o', 0, none⟩))) := by
    intro κ o o' ho
    refine .new (.obj ho) fun κ' r b hle hb hsh => .pure (.ptr ⟨rfl, b, hb, by simp [hsh]⟩)
  cases d with
  | string => cases hv <;> first | exact out (.stringIter _ _) | exact .halt
  | map a b =>
    cases hv with
    | mapNil => exact out (.mapIterNil _ _ _)
    | map hb => exact absurd rfl (hn _)
    | _ => exact .halt
  | _ => cases hv <;> exact .halt
/-- The iterator lies at the begin of its block. -/
def AtHead (κ : K) (v : Value) : Prop := ∀ a, v = .pointer (some a) → ∀ b, κ a.block = some b → b.sh = 0
theorem sr_next {v v' : Value} (h : VR κ v v') (hh : AtHead κ v) (isS : Bool) (t : TypeId) : SR P VR κ (Instr.next v isS t) (Instr.next v' isS t) := by
  unfold Instr.next
  cases h with
  | ptr ha =>
    rename_i a a'
    obtain ⟨h1, b, hb, rfl⟩ := ha
    have hsh := hh a rfl b hb
    obtain ⟨blk, off, spot⟩ := a
    simp only [] at h1 hb
    subst h1
    rw [hsh]
    cases off with
    | succ n => exact .halt
    | zero =>
      refine .getObj hb fun o o' ho => ?_
      cases ho with
      | stringIter s p =>
        cases isS with
        | false => exact .halt
        | true =>
          show SR P VR κ (if p < s.size then _ else _) (if p < s.size then _ else _)
          split
          · exact .setObj hb (.stringIter _ _) (.pure (.tuple (.cons (.bool _) (.cons (.int _ _) (.cons (.int _ _) .nil)))))
          · exact .pure (.tuple (.cons (.bool _) .nil))
      | mapIterNil a1 a2 a3 =>
        cases isS with
        | true => exact .halt
        | false => exact .pure (.tuple (.cons (.bool _) .nil))
      | map c he => cases isS <;> exact .halt
  | _ => exact .halt
end
end Go.Ev
