/- secrets: what Parse answers, said once for either side. -/
import Derived.Test.YtnadimjglkodkaaGreatDoorPrTwF
import Derived.Test.YtnadimjglkodkaaGreatDoorPrTzP
namespace Go.Proofs.Sr
open Go Go.RowKit Go.Pl Go.Proofs.Sa Go.Maps
/-- What a text comes to: secrets, an error's number, a line's. -/
def outO : Except (Int × Nat) (List Said) → List Said × Int × Nat
  | .ok out => (out, 0, 0)
  | .error (k, i) => ([], k, i)
theorem PaRet.uni {l : List UInt8} {w w' : World} {e : Ending} (h : PaRet l w e w') : ∃ ao cap l', e = .returned (.tuple #[.slice ao l'.length cap, .int .i64 (outO (parseT l)).2.1, .int .i64 ((outO (parseT l)).2.2 : Nat)]) ∧ l'.map said = (outO (parseT l)).1 ∧ Frs w.heap.size (.slice ao l'.length cap) l' w' ∧ Below w.heap.size w w' := by
  obtain ⟨h1, h2, h3⟩ := h
  cases hp : parseT l with
  | ok out =>
    obtain ⟨v, l', rfl, hl, hf⟩ := h1 out hp
    obtain ⟨ao, cap, rfl⟩ := own_slice hf.own
    exact ⟨ao, cap, l', rfl, hl, hf, h3⟩
  | error ki =>
    obtain ⟨k, i⟩ := ki
    exact ⟨none, 0, [], h2 k i hp, rfl, Frs.nil _ _, h3⟩
theorem said_same : ∀ (l m : List Sec), l.map said = m.map said → sameL l m = true
  | [], [], _ => rfl
  | [], _ :: _, h => by cases h
  | _ :: _, [], h => by cases h
  | x :: l, y :: m, h => by
    simp only [List.map_cons, List.cons.injEq] at h
    obtain ⟨h1, h2⟩ := h
    simp only [said, Prod.mk.injEq] at h1
    obtain ⟨a1, a2, a3, a4⟩ := h1
    have e : ∀ a b : ByteArray, a.data.toList = b.data.toList → sameB a b = true := fun a b h => by
      unfold sameB
      rw [Lib.toList_data, Lib.toList_data, h]
      exact beq_self_eq_true _
    simp [sameL, oneR, e _ _ a1, e _ _ a2, e _ _ a3, a4, said_same l m h2]
/-- What is read is small. -/
theorem lineS_small {s : List UInt8} {x : Said} (h : lineS s = .ok (some x)) : x.2.2.2.length ≤ 16 := by
  unfold lineS at h
  split at h
  · cases h
  · split at h
    · cases h
    · cases h
    · cases h
    · cases h
    · rename_i c sv wd ws _
      split at h
      · cases h
      · rename_i hy
        cases h
        have hy0 : whyP c sv wd ws = 0 := by simpa using hy
        unfold whyP at hy0
        simp only at hy0
        by_cases hb : bads ws ≠ 0 ∧ rightR (str c) (str sv) (str wd) (adrs ws) ≠ 60 ∧ rightR (str c) (str sv) (str wd) (adrs ws) ≠ 52
        · rw [if_pos hb] at hy0; exact absurd hy0 hb.1
        · rw [if_neg hb] at hy0
          unfold rightR at hy0
          split at hy0
          · omega
          · split at hy0
            · omega
            · split at hy0
              · omega
              · show (adrs ws).length ≤ 16
                omega
theorem parseS_small : ∀ (ls : List (List UInt8)) (i : Nat) (acc out : List Said), (∀ x ∈ acc, x.2.2.2.length ≤ 16) → parseS i ls acc = .ok out → ∀ x ∈ out, x.2.2.2.length ≤ 16
  | [], i, acc, out, ha, h => by
    have : acc = out := by simpa [parseS] using h
    subst this; exact ha
  | s :: ls, i, acc, out, ha, h => by
    unfold parseS at h
    cases hl : lineS s with
    | error e => rw [hl] at h; cases h
    | ok o =>
      rw [hl] at h
      cases o with
      | none => exact parseS_small ls _ acc out ha h
      | some x => exact parseS_small ls _ _ out (fun y hy => by
          rcases List.mem_append.1 hy with hy | hy
          · exact ha y hy
          · obtain rfl := List.mem_singleton.1 hy
            exact lineS_small hl) h
theorem out_small (l : List UInt8) : (outO (parseT l)).1.length ≤ 64 ∧ ∀ x ∈ (outO (parseT l)).1, x.2.2.2.length ≤ 16 := by
  unfold parseT
  split
  · exact ⟨Nat.zero_le _, fun x hx => by cases hx⟩
  · cases hp : parseS 0 (cutAt 10 l) [] with
    | error e => exact ⟨Nat.zero_le _, fun x hx => by cases hx⟩
    | ok out =>
      simp only
      split
      · exact ⟨Nat.zero_le _, fun x hx => by cases hx⟩
      · rename_i hn
        exact ⟨by show out.length ≤ 64; omega, parseS_small _ _ _ _ (fun x hx => by cases hx) hp⟩
theorem Frs.secs {base : Nat} {ao : Option Addr} {n cap : Nat} {l : List Sec} {wx : World} (h : Frs base (.slice ao n cap) l wx) (hn : l.length = n) : Secs wx ao n l := by
  have ho := h.own
  rw [hn] at ho
  obtain ⟨ao2, cap2, he, hs, _⟩ := secs_own ho (fun x hx => (h.ints x hx).1)
  simp only [Value.slice.injEq] at he
  obtain ⟨rfl, _, rfl⟩ := he
  exact hs
end Go.Proofs.Sr
