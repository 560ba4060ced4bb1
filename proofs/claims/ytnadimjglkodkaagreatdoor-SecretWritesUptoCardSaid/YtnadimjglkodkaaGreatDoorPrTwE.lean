/- secrets: errors.Is and errors.As of a line at fault. -/
import Derived.Test.YtnadimjglkodkaaGreatDoorPrTwV
import Derived.Test.YtnadimjglkodkaaGreatDoorKit7
namespace Go.Proofs.Sa
open Go Go.RowKit Go.Ev
def isFalse : Value → Bool
  | .bool false => true
  | _ => false
theorem isFalse_eq {v : Value} (h : isFalse v = true) : v = .bool false := by
  match v, h with
  | .bool false, _ => rfl
/-- A line at fault, and a variable for one. -/
def hp1 (i k : Int) : AH := { hp0 with n := 14, t := (hp0.t.set 24 12 (some (.cells [.int .i64 i, .int .i64 k, errV ⟨11, 0, none⟩] 91 0 0 true false))).set 24 13 (some (.cells [.pointer none] 86 0 0 true false)) }
set_option maxRecDepth 100000 in
theorem is_nil_evals : evalsFast Tryz.prog 11 hp0 400 47 [.nilIface, errV ⟨11, 0, none⟩] isFalse = true := by kernel_rfl
set_option maxRecDepth 100000 in
theorem is_fault_evals (i k : Int) : evalsFast Tryz.prog 11 (hp1 i k) 400 47 [.iface 86 (.pointer (some ⟨12, 0, none⟩)), errV ⟨11, 0, none⟩] isTrue = true := by kernel_rfl
set_option maxRecDepth 100000 in
theorem as_fault_evals (i k : Int) : stepOut Tryz.prog 11 [] (hp1 i k) 400 48 [.iface 86 (.pointer (some ⟨12, 0, none⟩)), .iface 89 (.pointer (some ⟨13, 0, none⟩))] 13 [13] =
    some (.bool true, 18, true, [some (.cells [.pointer (some ⟨12, 0, none⟩)] 86 0 0 true false)]) := by kernel_rfl
theorem hp0_get {id : Nat} {o : AObj} (h : hp0.get id = some o) : id = 0 ∨ id = 1 := by
  unfold hp0 AH.get at h
  simp only at h
  rw [T.get_set 24 _ 1 _ id (small_lt rfl)] at h
  split at h
  · rename_i he; exact .inr he
  · rw [T.get_set 24 _ 0 _ id (small_lt rfl)] at h
    split at h
    · rename_i he; exact .inl he
    · simp [T.get] at h
theorem hp0_zero : hp0.get 0 = some (.cells [errV ⟨11, 0, none⟩] 83 1 0 false false) := rfl
/-- The variable errLine holds what is known. -/
theorem line_told {κ : K} {w : World} (hs : Ev.Start Tryz.prog 11 κ hp0 w) {t : TypeId} {pv : Value} (hE : w.cell? ⟨0, 0, none⟩ = some (.iface t pv)) : VR κ (errV ⟨11, 0, none⟩) (.iface t pv) := by
  obtain ⟨b, h1, h2, h3⟩ := hs.kg 0 (by decide)
  obtain ⟨v', a1, a2⟩ := hs.told hp0_zero h1 0 _ rfl rfl
  rw [h2, h3] at a1
  rw [Nat.zero_add] at a1
  rw [hE] at a1
  cases a1
  exact a2
theorem is_nil {κ : K} {w : World} (hs : Ev.Start Tryz.prog 11 κ hp0 w) {t : TypeId} {pv : Value} (hE : w.cell? ⟨0, 0, none⟩ = some (.iface t pv)) : Calls Tryz.prog 47 #[.nilIface, .iface t pv] w fun e w' => e = .returned (.bool false) ∧ Below w.heap.size w w' := by
  refine (evalsFast_calls zerosFlat_here mixed_here is_nil_evals hs (args' := #[.nilIface, .iface t pv]) (.cons .nilIface (.cons (line_told hs hE) .nil))).mono ?_
  rintro e w2 ⟨v, rfl, hv, hgr⟩
  exact ⟨by rw [isFalse_eq hv], hgr⟩
/-- With the line at fault and the variable. -/
def kF (κ : K) (f q : Nat) : K := fun id => if id = 12 then some ⟨f, 0, 3, true, 0⟩ else if id = 13 then some ⟨q, 0, 1, true, 0⟩ else κ id
theorem start_fault {κ : K} {w : World} (hs : Ev.Start Tryz.prog 11 κ hp0 w) {t : TypeId} {pv : Value} (hE : w.cell? ⟨0, 0, none⟩ = some (.iface t pv)) {f q : Nat} {i k : Int} (hf : w.heap[f]? = some (.cells #[.int .i64 i, .int .i64 k, .iface t pv] 91 (0, 0))) (hq : w.heap[q]? = some (.cells #[.pointer none] 86 (0, 0))) (h2 : 2 ≤ f) (h3 : 2 ≤ q) (hne : f ≠ q) :
    Ev.Start Tryz.prog 11 (kF κ f q) (hp1 i k) w := by
  have hlt : ∀ id b, κ id = some b → id < 12 := hs.lt
  have hle : κ.le (kF κ f q) := fun id b h => by
    have := hlt id b h
    unfold kF
    rw [if_neg (by omega), if_neg (by omega)]
    exact h
  have s1 := hs.more (κ' := kF κ f q) (m := 14) hle (fun id b h => by
    unfold kF at h
    split at h
    · cases h; exact ⟨(Array.getElem?_eq_some_iff.1 hf).1, by omega⟩
    · split at h
      · cases h; exact ⟨(Array.getElem?_eq_some_iff.1 hq).1, by omega⟩
      · exact ⟨hs.rel.old id b h, by have := hlt id b h; omega⟩) (by decide)
  have hlow : ∀ id o b, hp0.get id = some o → kF κ f q id = some b → b.blk = id ∧ id ≤ 1 := fun id o b h1 h4 => by
    have hid : id ≤ 1 := by rcases hp0_get h1 with rfl | rfl <;> omega
    obtain ⟨c, c1, c2, _⟩ := hs.kg id (by omega)
    rw [hle _ _ c1] at h4
    cases h4
    exact ⟨c2, hid⟩
  have s2 := s1.row (id := 12) (b := ⟨f, 0, 3, true, 0⟩) (cs := [.int .i64 i, .int .i64 k, errV ⟨11, 0, none⟩]) (e := 91) rfl rfl rfl rfl rfl hf (.cons (.int _ _) (.cons (.int _ _) (.cons ((line_told hs hE).mono hle) .nil)))
    (fun id' o' b' h1 h4 h5 => by
      obtain ⟨a1, a2⟩ := hlow id' o' b' h1 h4
      have h5' : b'.blk = f := h5
      omega)
  refine s2.row (id := 13) (b := ⟨q, 0, 1, true, 0⟩) (cs := [.pointer none]) (e := 86) rfl rfl rfl rfl rfl hq (.cons .ptrNil .nil) (fun id' o' b' h1 h4 h5 => ?_)
  have h5' : b'.blk = q := h5
  have h1' : (if id' = 12 then some (AObj.cells [.int .i64 i, .int .i64 k, errV ⟨11, 0, none⟩] 91 0 0 true false) else hp0.get id') = some o' := by
    rw [← h1]
    exact (T.get_set 24 hp0.t 12 _ id' (small_lt rfl)).symm
  split at h1'
  · rename_i he
    subst he
    cases h4
    exact absurd h5' hne
  · obtain ⟨a1, a2⟩ := hlow id' o' b' h1' h4
    omega
theorem is_fault {κ : K} {w : World} (hs : Ev.Start Tryz.prog 11 κ hp0 w) {t : TypeId} {pv : Value} (hE : w.cell? ⟨0, 0, none⟩ = some (.iface t pv)) {f q : Nat} {i k : Int} (hf : w.heap[f]? = some (.cells #[.int .i64 i, .int .i64 k, .iface t pv] 91 (0, 0))) (hq : w.heap[q]? = some (.cells #[.pointer none] 86 (0, 0))) (h2 : 2 ≤ f) (h3 : 2 ≤ q) (hne : f ≠ q) :
    Calls Tryz.prog 47 #[.iface 86 (.pointer (some ⟨f, 0, none⟩)), .iface t pv] w fun e w' => e = .returned (.bool true) ∧ Below w.heap.size w w' := by
  have h := start_fault hs hE hf hq h2 h3 hne
  have hle : κ.le (kF κ f q) := fun id b hk => by
    have := hs.lt id b hk
    have h12 : id < 12 := this
    unfold kF
    rw [if_neg (by omega), if_neg (by omega)]
    exact hk
  refine (evalsFast_calls zerosFlat_here mixed_here (is_fault_evals i k) h (args' := #[.iface 86 (.pointer (some ⟨f, 0, none⟩)), .iface t pv]) (.cons (.iface (.ptr ⟨rfl, ⟨f, 0, 3, true, 0⟩, rfl, rfl⟩)) (.cons ((line_told hs hE).mono hle) .nil))).mono ?_
  rintro e w2 ⟨v, rfl, hv, hgr⟩
  exact ⟨by rw [isTrue_eq hv], hgr⟩
theorem as_fault {κ : K} {w : World} (hs : Ev.Start Tryz.prog 11 κ hp0 w) {t : TypeId} {pv : Value} (hE : w.cell? ⟨0, 0, none⟩ = some (.iface t pv)) {f q : Nat} {i k : Int} (hf : w.heap[f]? = some (.cells #[.int .i64 i, .int .i64 k, .iface t pv] 91 (0, 0))) (hq : w.heap[q]? = some (.cells #[.pointer none] 86 (0, 0))) (h2 : 2 ≤ f) (h3 : 2 ≤ q) (hne : f ≠ q) :
    Calls Tryz.prog 48 #[.iface 86 (.pointer (some ⟨f, 0, none⟩)), .iface 89 (.pointer (some ⟨q, 0, none⟩))] w fun e w' => e = .returned (.bool true) ∧ Below q w w' ∧ w'.cell? ⟨q, 0, none⟩ = some (.pointer (some ⟨f, 0, none⟩)) := by
  have h := start_fault hs hE hf hq h2 h3 hne
  have hst : Stand Tryz.prog 11 (kF κ f q) (hp1 i k) 13 q w w := ⟨h, fun id b hb => by
    by_cases h13 : id < 13
    · exact .inl h13
    · have hl : id < 14 := h.lt id b hb
      obtain rfl : id = 13 := by omega
      cases hb
      exact .inr (Nat.le_refl _), Below.refl _ _, Nat.le_of_lt (Array.getElem?_eq_some_iff.1 hq).1⟩
  refine (step_calls zerosFlat_here mixed_here (tab := []) (fun g args v hm => by cases hm) (l := [(13, .cells [.pointer (some ⟨12, 0, none⟩)] 86 0 0 true false)]) (as_fault_evals i k) rfl hst (args' := #[.iface 86 (.pointer (some ⟨f, 0, none⟩)), .iface 89 (.pointer (some ⟨q, 0, none⟩))])
    (.cons (.iface (.ptr ⟨rfl, ⟨f, 0, 3, true, 0⟩, rfl, rfl⟩)) (.cons (.iface (.ptr ⟨rfl, ⟨q, 0, 1, true, 0⟩, rfl, rfl⟩)) .nil))).mono ?_
  rintro e w2 ⟨κ', v', rfl, hv, hkk, hst2⟩
  have hq2 : κ' 13 = some ⟨q, 0, 1, true, 0⟩ := hkk 13 _ rfl
  have hf2 : κ' 12 = some ⟨f, 0, 3, true, 0⟩ := hkk 12 _ rfl
  obtain ⟨u, a1, a2⟩ := hst2.start.told (id := 13) (cs := [.pointer (some ⟨12, 0, none⟩)]) rfl hq2 0 _ rfl rfl
  obtain ⟨a', rfl, hs1, b, hb, ha'⟩ := VR.ptr_out a2
  rw [hf2] at hb
  cases hb
  subst ha'
  refine ⟨by rw [VR.eq_of_flat hv rfl], hst2.below, ?_⟩
  simpa using a1
end Go.Proofs.Sa
