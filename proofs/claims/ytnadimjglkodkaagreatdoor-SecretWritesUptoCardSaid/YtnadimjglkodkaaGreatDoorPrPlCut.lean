/- Text at one byte: what strings.Split gives is what a plain recursion gives. -/
import Derived.Lib.Split
import Derived.Lib.IndexBytes
import Derived.Lib.ItoaNum
import Derived.Lib.AtoiAll
namespace Go.Pl
open Go.Lib

/-- A text at each byte c. -/
def cutAt (c : UInt8) : List UInt8 → List (List UInt8)
  | [] => [[]]
  | b :: l => if b = c then [] :: cutAt c l else (b :: (cutAt c l).headD []) :: (cutAt c l).tail

theorem cutAt_ne (c : UInt8) : ∀ l, cutAt c l ≠ []
  | [] => by simp [cutAt]
  | b :: l => by unfold cutAt; split <;> simp

theorem cutAt_cons (c : UInt8) (l : List UInt8) : cutAt c l = (cutAt c l).headD [] :: (cutAt c l).tail := by
  have := cutAt_ne c l
  cases h : cutAt c l with
  | nil => exact absurd h this
  | cons a t => rfl

theorem cutAt_none {c : UInt8} : ∀ {l : List UInt8}, indexByte l c = -1 → cutAt c l = [l]
  | [], _ => rfl
  | b :: l, h => by
    unfold indexByte at h
    split at h
    · cases h
    · rename_i hb
      split at h
      · rename_i hl
        have hbc : ¬ b = c := by simpa using hb
        unfold cutAt
        rw [if_neg hbc, cutAt_none (by simpa using hl)]
        rfl
      · rename_i hl
        have := indexByte_ge l c
        have : indexByte l c ≠ -1 := by simpa using hl
        omega

theorem cutAt_hit {c : UInt8} : ∀ {l : List UInt8} {i : Nat}, indexByte l c = i → cutAt c l = l.take i :: cutAt c (l.drop (i + 1))
  | [], i, h => by simp [indexByte] at h
  | b :: l, i, h => by
    unfold indexByte at h
    split at h
    · rename_i hb
      obtain rfl : i = 0 := by omega
      have hbc : b = c := by simpa using hb
      conv => lhs; unfold cutAt
      rw [if_pos hbc]; rfl
    · rename_i hb
      split at h
      · omega
      · rename_i hl
        have h1 := indexByte_ge l c
        have h2 : indexByte l c ≠ -1 := by simpa using hl
        obtain ⟨j, hj⟩ : ∃ j : Nat, indexByte l c = j := ⟨(indexByte l c).toNat, by omega⟩
        obtain rfl : i = j + 1 := by omega
        have hbc : ¬ b = c := by simpa using hb
        conv => lhs; unfold cutAt
        rw [if_neg hbc, cutAt_hit hj]
        rfl

theorem split_one (c : UInt8) : ∀ (n : Nat) (l : List UInt8), l.length = n → splitK [c] 0 (count l [c]) l = cutAt c l := by
  intro n
  induction n using Nat.strongRecOn with
  | _ n ih =>
    intro l hl
    by_cases h : index l [c] = -1
    · rw [count_miss h]
      rw [index_one] at h
      rw [cutAt_none h]; rfl
    · have h1 : -1 ≤ index l [c] := index_ge l [c]
      obtain ⟨i, hi⟩ : ∃ i : Nat, index l [c] = i := ⟨(index l [c]).toNat, by omega⟩
      rw [count_hit (by simp) hi, Nat.add_comm, splitK]
      have hb : ¬ (index l [c] == -1) = true := by simpa using h
      rw [if_neg hb, hi]
      have hle : (i : Int) < l.length := by
        have hh := hi
        rw [index_one] at hh
        clear ih hl hb h h1 hi
        induction l generalizing i with
        | nil => simp [indexByte] at hh
        | cons b l ihl =>
          unfold indexByte at hh
          split at hh
          · simp; omega
          · split at hh
            · omega
            · have h2 := indexByte_ge l c
              rename_i hx
              have h3 : indexByte l c ≠ -1 := by simpa using hx
              have := ihl (indexByte l c).toNat (by omega)
              simp; omega
      have hlt : (l.drop (i + 1)).length < n := by rw [List.length_drop]; omega
      rw [index_one] at hi
      rw [cutAt_hit hi]
      simp only [Int.toNat_natCast, Nat.add_zero, List.length_singleton]
      rw [ih _ hlt _ rfl]

theorem count_cut (c : UInt8) : ∀ (l : List UInt8), count l [c] + 1 = (cutAt c l).length := by
  suffices ∀ (n : Nat) (l : List UInt8), l.length = n → count l [c] + 1 = (cutAt c l).length from fun l => this _ l rfl
  intro n
  induction n using Nat.strongRecOn with
  | _ n ih =>
    intro l hl
    by_cases h : index l [c] = -1
    · rw [count_miss h]
      rw [index_one] at h
      rw [cutAt_none h]; rfl
    · have h1 : -1 ≤ index l [c] := index_ge l [c]
      obtain ⟨i, hi⟩ : ∃ i : Nat, index l [c] = i := ⟨(index l [c]).toNat, by omega⟩
      have hlt : (l.drop (i + 1)).length < n := by
        have hb : ¬ (index l [c] == -1) = true := by simpa using h
        have := drop_shorter (s := l) (sub := [c]) (by simp) hb
        rw [hi] at this
        simpa [hl] using this
      rw [count_hit (by simp) hi]
      rw [index_one] at hi
      rw [cutAt_hit hi]
      have := ih _ hlt _ rfl
      simp only [List.length_cons, List.length_nil, Nat.zero_add] at this ⊢
      omega

theorem splitB_one (s : ByteArray) (c : UInt8) (sep : ByteArray) (hs : sep.data.toList = [c]) : (splitB sep 0 (countB s sep) s).map (·.data.toList) = cutAt c s.data.toList := by
  rw [splitB_data, hs]
  have : countB s sep = count s.data.toList [c] := by unfold countB; rw [hs]
  rw [this, split_one c _ _ rfl]
theorem splitB_count (s : ByteArray) (c : UInt8) (sep : ByteArray) (hs : sep.data.toList = [c]) : (splitB sep 0 (countB s sep) s).length = countB s sep + 1 := by
  have h1 := congrArg List.length (splitB_one s c sep hs)
  rw [List.length_map] at h1
  have : countB s sep = count s.data.toList [c] := by unfold countB; rw [hs]
  rw [h1, this, count_cut]
end Go.Pl
