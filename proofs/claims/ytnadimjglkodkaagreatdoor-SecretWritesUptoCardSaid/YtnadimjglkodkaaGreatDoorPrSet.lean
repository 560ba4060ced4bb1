/- Sets of whole numbers as maps to true: what a look-up answers, what a store leaves. Over any program. -/
import Derived.Maps.OwnSet
import Derived.Maps.Views
namespace Go.Pl
open Go Go.RowKit Go.Maps Go.WideMaps

/-- Block b is a map to true of just these numbers. -/
def IsSet (P : Program) (k e : TypeId) (q : IntKind) (w : World) (b : Nat) (zs : List Int) : Prop :=
  w.ownsMap P k (plainElem (H := Unit) P e) b zs.length (setOf (.lit (.bool true)) (zs.map (Lit.int q)))

theorem IsSet.made {P : Program} {k e : TypeId} {q : IntKind} (w : World) : IsSet P k e q (w.alloc (.map #[] 0)) w.heap.size [] := World.ownsMap_made _ _ _ _
theorem IsSet.kept {P : Program} {k e : TypeId} {q : IntKind} {w w' : World} {b : Nat} {zs : List Int} (h : IsSet P k e q w b zs) (hb : w'.heap[b]? = w.heap[b]?) : IsSet P k e q w' b zs := by
  obtain ⟨es, clock, h1, h2, h3, h4⟩ := h
  exact ⟨es, clock, hb.trans h1, h2, h3, h4⟩

theorem isKey_int (q : IntKind) (z : Int) : WideAt.IsKeyLit (.int q z) := trivial

theorem atKey_fold (z : DataW Unit) (x : Lit) (hx : WideAt.IsKeyLit x) : ∀ (l : List Lit) (m : DataW Unit), IsMap m → (∀ y ∈ l, WideAt.IsKeyLit y) →
    (l.foldl (fun m y => m.put y (.lit (.bool true))) m).atKey x z = if l.any (fun y => y.sameKey x) then .lit (.bool true) else m.atKey x z
  | [], m, _, _ => rfl
  | y :: l, m, hm, hk => by
    simp only [List.foldl_cons]
    rw [atKey_fold z x hx l _ (hm.put _ _) (fun y hy => hk y (by simp [hy]))]
    by_cases hyx : y = x
    · subst hyx
      rw [atKey_put_same hm hx]
      have : y.sameKey y = true := by
        cases y with
        | int q a => simp [Lit.sameKey]
        | bool a => simp [Lit.sameKey]
        | string a => simp [Lit.sameKey]
        | nil => exact hx.elim
        | float _ _ => exact hx.elim
      simp [List.any_cons, this]
    · rw [atKey_put_other (fun h => hyx h.symm)]
      simp [List.any_cons, sameKey_ne hyx]

theorem any_same (q : IntKind) (a : Int) : ∀ zs : List Int, (zs.map (Lit.int q)).any (fun y => y.sameKey (.int q a)) = zs.contains a
  | [] => rfl
  | z :: zs => by
    simp only [List.map_cons, List.any_cons, List.contains_cons, any_same q a zs]
    congr 1
    simp only [Lit.sameKey, true_and]
    by_cases h : z = a
    · subst h; simp
    · have : ¬ a = z := fun e => h e.symm
      simp [h, this]

theorem IsSet.look {P : Program} {k e t : TypeId} {q : IntKind} {w : World} {b : Nat} {zs : List Int} (h : IsSet P k e q w b zs) (ht : P.underlying t = some (.map k e)) (hk : P.underlying k = some (.int q)) (he : P.underlying e = some .bool)
    (hz : (zeroValue e).run P w = .ok (.bool false) w) (a : Int) (ha : (Lit.int q a).wf = true) : (Instr.lookup t (.map (some b)) (.int q a) false).run P w = .ok (.bool (zs.contains a)) w := by
  obtain ⟨v, ps, hrun, hv⟩ := World.ownsMap.lookup h (int_keyed hk) ht hz (plainElem_bool he false) (keyOf_int_mk hk ha)
  rw [hrun]
  have hat : (setOf (H := Unit) (.lit (.bool true)) (zs.map (Lit.int q))).atKey (.int q a) (.lit (.bool false)) = .lit (.bool (zs.contains a)) := by
    unfold setOf
    rw [atKey_fold _ _ (isKey_int q a) _ _ isMap_empty (fun y hy => by obtain ⟨z, _, rfl⟩ := List.mem_map.1 hy; exact isKey_int q z), any_same]
    cases zs.contains a <;> rfl
  rw [hat] at hv
  unfold plainElem at hv
  rw [he] at hv
  split at hv
  · simp only [Option.some.injEq, Prod.mk.injEq, DataW.lit.injEq, Lit.bool.injEq] at hv
    rw [hv.1]
  · rename_i h1; cases h1
  · rename_i h1; cases h1
  · cases hv

theorem IsSet.store {P : Program} {k e t : TypeId} {q : IntKind} {w : World} {b : Nat} {zs : List Int} (h : IsSet P k e q w b zs) (ht : P.underlying t = some (.map k e)) (hk : P.underlying k = some (.int q)) (he : P.underlying e = some .bool)
    (hn : zs.length < maxLen) (a : Int) (ha : (Lit.int q a).wf = true) : ∃ w', (Instr.mapUpdate t (.map (some b)) (.int q a) (.bool true)).run P w = .ok () w' ∧ IsSet P k e q w' b (zs ++ [a]) ∧ w.grownBy w' (some b) := by
  obtain ⟨w', h1, h2, h3⟩ := World.ownsMap.update h (int_keyed hk) ht hn (keyOf_int_mk hk ha) (plainElem_bool he true)
  refine ⟨w', h1, ?_, h3⟩
  unfold IsSet
  rw [List.map_append, List.length_append]
  simp only [List.map_cons, List.map_nil]
  rw [setOf_snoc]
  exact h2
end Go.Pl
