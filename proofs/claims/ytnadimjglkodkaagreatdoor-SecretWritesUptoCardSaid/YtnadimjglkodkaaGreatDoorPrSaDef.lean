/- secrets: what is said of them, with no program in sight. -/
import Derived.Lib.AtoiAll
import Derived.Lib.IndexBytes
import Derived.Laws.AppendOwn
import Derived.Shelf.Strconv.AtoiAll
import Derived.Test.YtnadimjglkodkaaGreatDoorPrBox
import Derived.Test.YtnadimjglkodkaaGreatDoorPrSet
import Derived.Test.YtnadimjglkodkaaGreatDoorPrPlAddr
import Derived.Test.YtnadimjglkodkaaGreatDoorPrBits
namespace Go.Proofs.Sa
open Go Go.RowKit Go.Pl
theorem own_below {B : Nat} {e : TypeId} {k : Nat} {v : Value} {n : Nat} {xs : List Value} {w w' : World} (h : w.ownsRow B e k v n xs) (hb : Below w.heap.size w w') : w'.ownsRow B e k v n xs :=
  h.kept (row := none) ⟨hb.os, hb.tape, hb.output, hb.size, fun j hj _ => hb.block j hj⟩ (by cases hv : v.ownBlock <;> simp)
def badName (c : UInt8) : Bool := decide (c.toNat < 32) || decide (126 < c.toNat) || c.toNat == 34 || c.toNat == 92
def nameOk (s : ByteArray) : Bool := decide (1 ≤ s.size) && decide (s.size ≤ 64) && s.data.toList.all fun c => !badName c
theorem all_from (l : List UInt8) (i : Nat) (h : ∀ j c, j < i → l[j]? = some c → badName c = false) (hi : l.length ≤ i) : (l.all fun c => !badName c) = true := by
  rw [List.all_eq_true]
  intro c hc
  obtain ⟨j, hj⟩ := List.getElem?_of_mem hc
  have := (List.getElem?_eq_some_iff.1 hj).1
  rw [h j c (by omega) hj]; rfl
theorem upto_succ {l : List UInt8} {p : UInt8 → Bool} {i : Nat} {x : UInt8} (h : ∀ j c, j < i → l[j]? = some c → p c = false) (hx : l[i]? = some x) (hp : p x = false) : ∀ j c, j < i + 1 → l[j]? = some c → p c = false := fun j c hj hc => by
  rcases Nat.lt_or_ge j i with h' | h'
  · exact h j c h' hc
  · obtain rfl : j = i := by omega
    obtain rfl := Option.some.inj (hc.symm.trans hx)
    exact hp
theorem not_all {l : List UInt8} {i : Nat} {c : UInt8} (h : l[i]? = some c) (hb : badName c = true) : (l.all fun c => !badName c) = false := by
  rw [List.all_eq_false]
  exact ⟨c, List.mem_of_getElem? h, by simp [hb]⟩
def nameBad (c : ByteArray) : Bool := !(c.toList == [42]) && !nameOk c
def wordBad (c : ByteArray) : Bool := !(c.toList == []) && !nameOk c
/-- Is a number met that was seen? -/
def dups (seen : List Int) : List Int → Bool
  | [] => false
  | a :: l => seen.contains a || dups (seen ++ [a]) l
def badAddr (a : Int) : Bool := decide (a < 1) || decide (4294967295 < a)
def addrsR (zs : List Int) : Int := if zs.any badAddr then 150 else if dups [] zs then 6 else 0
def rightR (c sv wd : ByteArray) (zs : List Int) : Int := if nameBad c || nameBad sv then 60 else if wordBad wd then 52 else if 16 < zs.length then 7 else addrsR zs
/-- Whole numbers that lie in a row. -/
structure Ints (w : World) (ao : Option Addr) (n : Nat) (zs : List Int) : Prop where
  len : zs.length = n
  wf : ∀ z ∈ zs, (Lit.int .i64 z).wf = true
  row : 0 < n → ∃ b off, ao = some ⟨b, off, none⟩ ∧ b < w.heap.size ∧ ∀ j, j < n → w.cell? ⟨b, off + j, none⟩ = some (.int .i64 (zs.getD j 0))
theorem Ints.kept {w w' : World} {ao : Option Addr} {n : Nat} {zs : List Int} (h : Ints w ao n zs) (hb : Below w.heap.size w w') : Ints w' ao n zs :=
  ⟨h.len, h.wf, fun h0 => by
    obtain ⟨b, off, h1, h2, h3⟩ := h.row h0
    exact ⟨b, off, h1, Nat.lt_of_lt_of_le h2 hb.size, fun j hj => (hb.cell h2).trans (h3 j hj)⟩⟩
theorem atoi_range {l : List UInt8} {k : Int} (h : Lib.atoiAll l = .ok k) : -9223372036854775808 ≤ k ∧ k ≤ 9223372036854775807 := by
  unfold Lib.atoiAll at h
  split at h
  · cases h
  · dsimp only at h
    split at h
    · cases h
    · cases h
    · split at h
      · cases h
      · split at h
        · cases h
        · injection h with h
          subst h
          split <;> omega
def addrR (l : List UInt8) : Int × Int := match addrOf l with
  | some k => (k, 0)
  | none => (0, 150)
theorem partsA_len : ∀ (k n : Nat) (l : List (List UInt8)) (r : Nat), partsA k n l = some r → l.length = k
  | 0, _, _, _, h => by simp [partsA] at h
  | _ + 1, _, [], _, h => by simp [partsA] at h
  | k + 1, n, [p], r, h => by
    unfold partsA at h
    split at h
    · simp; omega
    · cases h
  | k + 1, n, p :: q :: ps, r, h => by
    unfold partsA at h
    split at h
    · cases h
    · cases ho : octet p with
      | none => rw [ho] at h; cases h
      | some v =>
        rw [ho] at h
        have := partsA_len k (n * 256 + v) (q :: ps) r h
        simp at this ⊢; omega
theorem partsA_bad (k n : Nat) (p : List UInt8) (ps : List (List UInt8)) (h : octet p = none) : partsA k n (p :: ps) = none := by
  cases k with
  | zero => rfl
  | succ k =>
    cases ps with
    | nil => unfold partsA; rw [h]; simp
    | cons q ps => unfold partsA; rw [h]; simp
theorem partsA_good (k n v : Nat) (p : List UInt8) (ps : List (List UInt8)) (h : octet p = some v) (hl : (p :: ps).length = k + 1) : partsA (k + 1) n (p :: ps) = if k = 0 then some (n * 256 + v) else partsA k (n * 256 + v) ps := by
  cases ps with
  | nil =>
    obtain rfl : k = 0 := by simpa using hl.symm
    unfold partsA; rw [h]; simp
  | cons q ps =>
    have hk : ¬ k = 0 := by simp at hl; omega
    conv => lhs; unfold partsA
    rw [h, if_neg hk, if_neg hk]; rfl
theorem cutAt_len (c : UInt8) : ∀ (l q : List UInt8), q ∈ cutAt c l → q.length ≤ l.length
  | [], q, h => by
    have : q = [] := by simpa [cutAt] using h
    subst this; simp
  | b :: l, q, h => by
    have ih := cutAt_len c l
    have h1 := cutAt_cons c l
    unfold cutAt at h
    split at h
    · rcases List.mem_cons.1 h with rfl | h
      · simp
      · have := ih q h; simp; omega
    · have hh : (cutAt c l).headD [] ∈ cutAt c l := by
        have := @List.mem_cons_self _ ((cutAt c l).headD []) (cutAt c l).tail
        rwa [← h1] at this
      rcases List.mem_cons.1 h with rfl | h
      · have := ih _ hh
        rw [List.length_cons, List.length_cons]; omega
      · have := ih q (by rw [h1]; exact List.mem_cons_of_mem _ h)
        simp; omega
theorem str_ne (a : List UInt8) (b : ByteArray) : (a == b.toList) = decide (a = b.data.toList) := by
  rw [Lib.toList_data]
  by_cases h : a = b.data.toList
  · simp [h]
  · simp [h]
theorem first_dd {p : ByteArray} {v : Nat} (h : p.data.toList = dd v) (hv : v < 256) (h0 : 0 < p.size) : ((((p[0]'h0).toNat : Nat) : Int) == 45) = false := by
  have h1 : p.data.toList[0]? = some (p[0]'h0) := Lib.data_getElem? p 0 h0
  have h2 : ∀ v, v < 256 → ((dd v)[0]?).all (fun c => c.toNat != 45) = true := by decide +kernel
  have h3 := h2 v hv
  rw [← h, h1] at h3
  simp at h3
  simp; omega
structure Sec where
  c : ByteArray
  sv : ByteArray
  wd : ByteArray
  ao : Option Addr
  n : Nat
  cap : Nat
  zs : List Int
abbrev Sec.val (x : Sec) : Value := .agg #[.string x.c, .string x.sv, .string x.wd, .slice x.ao x.n x.cap]
def Sec.cells4 (x : Sec) : List Value := [.string x.c, .string x.sv, .string x.wd, .slice x.ao x.n x.cap]
def Sec.right (x : Sec) : Int := rightR x.c x.sv x.wd x.zs
/-- Secrets that lie in a row. -/
structure Secs (w : World) (ao : Option Addr) (n : Nat) (l : List Sec) : Prop where
  len : l.length = n
  row : 0 < n → ∃ b off, ao = some ⟨b, off, none⟩ ∧ b < w.heap.size ∧ ∀ j x, l[j]? = some x →
    w.cell? ⟨b, off + j * 4, none⟩ = some (.string x.c) ∧ w.cell? ⟨b, off + j * 4 + 1, none⟩ = some (.string x.sv) ∧ w.cell? ⟨b, off + j * 4 + 2, none⟩ = some (.string x.wd) ∧ w.cell? ⟨b, off + j * 4 + 3, none⟩ = some (.slice x.ao x.n x.cap)
  ints : ∀ x ∈ l, Ints w x.ao x.n x.zs
theorem Secs.kept {w w' : World} {ao : Option Addr} {n : Nat} {l : List Sec} (h : Secs w ao n l) (hb : Below w.heap.size w w') : Secs w' ao n l :=
  ⟨h.len, fun h0 => by
    obtain ⟨b, off, h1, h2, h3⟩ := h.row h0
    refine ⟨b, off, h1, Nat.lt_of_lt_of_le h2 hb.size, fun j x hx => ?_⟩
    obtain ⟨q0, q1, q2, q3⟩ := h3 j x hx
    exact ⟨(hb.cell h2).trans q0, (hb.cell h2).trans q1, (hb.cell h2).trans q2, (hb.cell h2).trans q3⟩, fun x hx => (h.ints x hx).kept hb⟩
def firstBad : Nat → List Sec → Int × Int
  | _, [] => (0, 0)
  | i, x :: l => if x.right = 0 then firstBad (i + 1) l else (x.right, i)
def wrongR (l : List Sec) : Int × Int := if 64 < l.length then (7, 0) else firstBad 0 l
/-- Of a row that the call owns: its numbers. -/
theorem ints_own {w : World} {base n : Nat} {e : TypeId} {v : Value} {zs : List Int} (h : w.ownsRow base e 1 v n (zs.map (Value.int .i64))) (hwf : ∀ z ∈ zs, (Lit.int .i64 z).wf = true) :
    ∃ ao cap, v = .slice ao n cap ∧ Ints w ao n zs ∧ ∀ a, ao = some a → base ≤ a.block := by
  obtain ⟨hl, hv⟩ := h
  rw [List.length_map, Nat.mul_one] at hl
  rcases hv with ⟨rfl, rfl⟩ | ⟨g, cap, cur, rfl, hg, hh, _, _, _, ht⟩
  · exact ⟨none, 0, rfl, ⟨hl, hwf, fun h => by omega⟩, fun a ha => by cases ha⟩
  · refine ⟨some ⟨g, 0, none⟩, cap, rfl, ⟨hl, hwf, fun _ => ⟨g, 0, rfl, (Array.getElem?_eq_some_iff.1 hh).1, fun j hj => ?_⟩⟩, fun a ha => by cases ha; exact hg⟩
    simp only [World.cell?, hh, Nat.zero_add]
    have h1 : cur.toList[j]? = (zs.map (Value.int .i64))[j]? := by rw [← ht, Nat.mul_one, List.getElem?_take_of_lt hj]
    rw [← Array.getElem?_toList, h1, List.getElem?_map, List.getElem?_eq_getElem (by omega)]
    simp [List.getD, List.getElem?_eq_getElem (show j < zs.length by omega)]
theorem Ints.setCell {w : World} {ao : Option Addr} {n : Nat} {zs : List Int} (h : Ints w ao n zs) {k o : Nat} (hk : ∀ a, ao = some a → a.block ≠ k) (v : Value) : Ints (w.setCell ⟨k, o, none⟩ v) ao n zs :=
  ⟨h.len, h.wf, fun h0 => by
    obtain ⟨b, off, h1, h2, h3⟩ := h.row h0
    refine ⟨b, off, h1, by rw [setCell_size]; exact h2, fun j hj => ?_⟩
    have hb : b ≠ k := hk _ h1
    have := h3 j hj
    simp only [World.cell?] at this ⊢
    rw [setCell_other hb]
    exact this⟩
/-- Numbers in a row of numbers that is the call's own. -/
def OwnI (base : Nat) (w : World) (ao : Option Addr) : Prop := ∀ a, ao = some a → base ≤ a.block ∧ ∃ cur, w.heap[a.block]? = some (.cells cur 2 (0, 0))
theorem OwnI.none (base : Nat) (w : World) : OwnI base w none := fun a ha => by cases ha
theorem OwnI.kept {base : Nat} {w w' : World} {ao : Option Addr} (h : OwnI base w ao) (hb : Below w.heap.size w w') : OwnI base w' ao := fun a ha => by
  obtain ⟨h1, cur, h2⟩ := h a ha
  exact ⟨h1, cur, (hb.block _ (Array.getElem?_eq_some_iff.1 h2).1).trans h2⟩
theorem OwnI.mono {base base' : Nat} {w : World} {ao : Option Addr} (h : OwnI base w ao) (hb : base' ≤ base) : OwnI base' w ao := fun a ha => ⟨Nat.le_trans hb (h a ha).1, (h a ha).2⟩
theorem OwnI.setCell {base : Nat} {w : World} {ao : Option Addr} (h : OwnI base w ao) {k o : Nat} (hk : ∀ a, ao = some a → a.block ≠ k) (v : Value) : OwnI base (w.setCell ⟨k, o, Option.none⟩ v) ao := fun a ha => by
  obtain ⟨h1, cur, h2⟩ := h a ha
  exact ⟨h1, cur, (setCell_other (hk a ha) v).trans h2⟩
theorem ints_own_t {w : World} {base n : Nat} {v : Value} {zs : List Int} (h : w.ownsRow base 2 1 v n (zs.map (Value.int .i64))) (hwf : ∀ z ∈ zs, (Lit.int .i64 z).wf = true) :
    ∃ ao cap, v = .slice ao n cap ∧ Ints w ao n zs ∧ OwnI base w ao ∧ (ao = none → cap = 0) := by
  obtain ⟨ao, cap, rfl, h1, h2⟩ := ints_own h hwf
  refine ⟨ao, cap, rfl, h1, fun a ha => ?_, fun ha => ?_⟩
  · obtain ⟨_, ⟨h3, _⟩ | ⟨g, cap', cur, h3, h4, h5, _⟩⟩ := h
    · simp [ha] at h3
    · simp only [Value.slice.injEq] at h3
      obtain ⟨h3, _⟩ := h3
      rw [ha] at h3; cases h3
      exact ⟨h4, cur, h5⟩
  · obtain ⟨_, ⟨h3, _⟩ | ⟨g, cap', cur, h3, h4, h5, _⟩⟩ := h
    · simp at h3; exact h3.2.2
    · simp [ha] at h3
def starB (a : ByteArray) : Bool := a.toList == [42]
def sameB (a b : ByteArray) : Bool := a.toList == b.toList
def skipB (cl sv : ByteArray) (x : Sec) : Bool := starB cl || starB sv || (!sameB x.c cl && !starB x.c) || (!sameB x.sv sv && !starB x.sv) || !(x.right == 0)
def rankI (cl sv : ByteArray) (x : Sec) : Int := (if sameB x.c cl then 2 else 0) + (if sameB x.sv sv then 1 else 0)
def stepF (cl sv : ByteArray) (i : Nat) (s : Int × Int) (x : Sec) : Int × Int := if skipB cl sv x then s else if s.1 < rankI cl sv x then (rankI cl sv x, i) else s
def scanF (cl sv : ByteArray) : Nat → Int × Int → List Sec → Int × Int
  | _, s, [] => s
  | i, s, x :: l => scanF cl sv (i + 1) (stepF cl sv i s x) l
def Good (l : List Sec) (b a : Int) : Prop := 0 ≤ b → ∃ (k : Nat) (y : Sec), a = k ∧ l[k]? = some y ∧ y.right = 0
theorem scan_step (cl sv : ByteArray) (i : Nat) (s : Int × Int) (x : Sec) (l : List Sec) : scanF cl sv i s (x :: l) = scanF cl sv (i + 1) (stepF cl sv i s x) l := rfl
theorem ints_nil (w : World) : Ints w none 0 [] := ⟨rfl, fun z hz => (by cases hz), fun h => absurd h (Nat.lt_irrefl 0)⟩
def zeroSec : Sec := ⟨⟨#[]⟩, ⟨#[]⟩, ⟨#[]⟩, none, 0, 0, []⟩
def foundR (l : List Sec) (cl sv : ByteArray) : Sec × Bool := if (scanF cl sv 0 (-1, 0) l).1 < 0 then (zeroSec, false) else ((l[(scanF cl sv 0 (-1, 0) l).2.toNat]?).getD zeroSec, true)
/-- What Find answers: the secret, in new memory. -/
def Found (l : List Sec) (cl sv : ByteArray) (w : World) (e : Ending) (w' : World) : Prop := ∃ ao' cap', e = .returned (.tuple #[.agg #[.string (foundR l cl sv).1.c, .string (foundR l cl sv).1.sv, .string (foundR l cl sv).1.wd, .slice ao' (foundR l cl sv).1.n cap'], .bool (foundR l cl sv).2]) ∧
  Ints w' ao' (foundR l cl sv).1.n (foundR l cl sv).1.zs ∧ Below w.heap.size w w' ∧ OwnI w.heap.size w' ao'
theorem right_len {x : Sec} (h : x.right = 0) : x.zs.length ≤ 16 := by
  unfold Sec.right rightR at h
  split at h
  · omega
  · split at h
    · omega
    · split at h
      · omega
      · omega
end Go.Proofs.Sa
