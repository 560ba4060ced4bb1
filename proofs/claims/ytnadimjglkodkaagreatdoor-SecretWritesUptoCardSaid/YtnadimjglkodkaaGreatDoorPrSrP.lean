/- secrets: a file is read, in plain Lean. -/
import Derived.Test.YtnadimjglkodkaaGreatDoorPrSaDef
namespace Go.Proofs.Sr
open Go Go.Pl Go.Lib Go.Proofs.Sa
def blkS (c : UInt8) : Bool := c == 32 || c == 9 || c == 13
def stopS (c : UInt8) : Bool := blkS c || c == 35
/-- Behind a quotation mark: the word, and what is left. -/
def quoS : List UInt8 → List UInt8 → Option (List UInt8 × List UInt8)
  | _, [] => none
  | acc, c :: r =>
    if c.toNat = 34 then (if r.head?.all stopS then some (acc, r) else none)
    else if c.toNat = 92 then
      match r with
      | [] => none
      | d :: q => if d.toNat = 34 ∨ d.toNat = 92 then quoS (acc ++ [d]) q else none
    else quoS (acc ++ [c]) r
theorem quoS_end {acc r : List UInt8} {c : UInt8} (h : c.toNat = 34) : quoS acc (c :: r) = if r.head?.all stopS then some (acc, r) else none := by
  unfold quoS; rw [if_pos h]
theorem quoS_cut {acc : List UInt8} {c : UInt8} (h : c.toNat = 92) : quoS acc [c] = none := by
  unfold quoS; rw [if_neg (by omega), if_pos h]
theorem quoS_esc {acc q : List UInt8} {c d : UInt8} (h : c.toNat = 92) (hd : d.toNat = 34 ∨ d.toNat = 92) : quoS acc (c :: d :: q) = quoS (acc ++ [d]) q := by
  conv => lhs; unfold quoS
  rw [if_neg (by omega), if_pos h]
  simp only [if_pos hd]
theorem quoS_noesc {acc q : List UInt8} {c d : UInt8} (h : c.toNat = 92) (hd : ¬ (d.toNat = 34 ∨ d.toNat = 92)) : quoS acc (c :: d :: q) = none := by
  unfold quoS
  rw [if_neg (by omega), if_pos h]
  simp only [if_neg hd]
theorem quoS_step {acc r : List UInt8} {c : UInt8} (h1 : c.toNat ≠ 34) (h2 : c.toNat ≠ 92) : quoS acc (c :: r) = quoS (acc ++ [c]) r := by
  conv => lhs; unfold quoS
  rw [if_neg h1, if_neg h2]
theorem quoS_lt : ∀ (n : Nat) (r acc w q : List UInt8), r.length ≤ n → quoS acc r = some (w, q) → q.length < r.length
  | 0, r, acc, w, q, hn, h => by
    obtain rfl : r = [] := List.length_eq_zero_iff.1 (by omega)
    simp [quoS] at h
  | n + 1, [], acc, w, q, _, h => by simp [quoS] at h
  | n + 1, c :: r, acc, w, q, hn, h => by
    have hr : r.length ≤ n := by simpa using hn
    by_cases h1 : c.toNat = 34
    · rw [quoS_end h1] at h
      split at h
      · obtain ⟨_, rfl⟩ : acc = w ∧ r = q := by simpa using h
        simp
      · cases h
    by_cases h2 : c.toNat = 92
    · cases r with
      | nil => rw [quoS_cut h2] at h; cases h
      | cons d r =>
        by_cases hd : d.toNat = 34 ∨ d.toNat = 92
        · rw [quoS_esc h2 hd] at h
          have hl := quoS_lt n r _ w q (by simp at hr; omega) h
          simp at hl ⊢; omega
        · rw [quoS_noesc h2 hd] at h; cases h
    rw [quoS_step h1 h2] at h
    have hl := quoS_lt n r _ w q hr h
    simp at hl ⊢; omega
/-- How long the bare word is that begins here. -/
def bareS : List UInt8 → Option Nat
  | [] => some 0
  | c :: r => if stopS c then some 0 else if c.toNat = 34 then none else (bareS r).map (· + 1)
/-- The words of a line. -/
def wordsS : Nat → List (List UInt8) → List UInt8 → Option (List (List UInt8))
  | 0, _, _ => none
  | _ + 1, acc, [] => some acc
  | k + 1, acc, c :: r =>
    if blkS c then wordsS k acc r
    else if c.toNat = 35 then some acc
    else if c.toNat = 34 then
      match quoS [] r with
      | none => none
      | some (w, q) => wordsS k (acc ++ [w]) q
    else
      match bareS (c :: r) with
      | none => none
      | some n => wordsS k (acc ++ [(c :: r).take n]) ((c :: r).drop n)
/-- What a line says: client, server, word, addresses. -/
abbrev Said := List UInt8 × List UInt8 × List UInt8 × List Int
def str (l : List UInt8) : ByteArray := ⟨l.toArray⟩
/-- The addresses of words; the first fault's number. -/
def adrs (ws : List (List UInt8)) : List Int := ws.map fun w => (addrR w).1
def bads : List (List UInt8) → Int
  | [] => 0
  | w :: ws => if (addrR w).2 ≠ 0 then (addrR w).2 else bads ws
/-- What is wrong of a line's secret, as the program asks. -/
def whyP (c sv wd : List UInt8) (ws : List (List UInt8)) : Int :=
  let why := rightR (str c) (str sv) (str wd) (adrs ws)
  if bads ws ≠ 0 ∧ why ≠ 60 ∧ why ≠ 52 then bads ws else why
/-- .. as the document asks. -/
def whyR (c sv wd : List UInt8) (ws : List (List UInt8)) : Int :=
  if rightR (str c) (str sv) (str wd) [] ≠ 0 then rightR (str c) (str sv) (str wd) []
  else if bads ws ≠ 0 then bads ws else rightR (str c) (str sv) (str wd) (adrs ws)
theorem addrsR_ne (zs : List Int) : addrsR zs ≠ 60 ∧ addrsR zs ≠ 52 := by
  unfold addrsR
  split
  · decide
  · split <;> decide
theorem why_eq (c sv wd : List UInt8) (ws : List (List UInt8)) : whyP c sv wd ws = whyR c sv wd ws := by
  unfold whyP whyR rightR
  by_cases h1 : (nameBad (str c) || nameBad (str sv)) = true
  · simp [h1]
  by_cases h2 : wordBad (str wd) = true
  · simp [h1, h2]
  have h3 := addrsR_ne (adrs ws)
  have h0 : addrsR [] = 0 := rfl
  simp only [h1, h2, h0, Bool.false_eq_true, if_false, List.length_nil]
  by_cases h4 : 16 < (adrs ws).length
  · simp [h4]
  · simp [h4, h3]
/-- A line: an error's number, or what it says, if anything. -/
def lineS (s : List UInt8) : Except Int (Option Said) :=
  if 1024 < s.length then .error 4 else match wordsS (s.length + 1) [] s with
    | none => .error 50
    | some [] => .ok none
    | some [_] => .error 50
    | some [_, _] => .error 50
    | some (c :: sv :: wd :: ws) => if whyP c sv wd ws ≠ 0 then .error (whyP c sv wd ws) else .ok (some (c, sv, wd, adrs ws))
def parseS : Nat → List (List UInt8) → List Said → Except (Int × Nat) (List Said)
  | _, [], out => .ok out
  | i, s :: ls, out => match lineS s with
    | .error e => .error (e, i)
    | .ok none => parseS (i + 1) ls out
    | .ok (some x) => parseS (i + 1) ls (out ++ [x])
theorem lineS_nil : lineS [] = .ok none := rfl
/-- An empty last line says nothing. -/
theorem parseS_end : ∀ (ls : List (List UInt8)) (i : Nat) (out : List Said), parseS i (ls ++ [[]]) out = parseS i ls out
  | [], i, out => by simp [parseS, lineS_nil]
  | s :: ls, i, out => by
    show parseS i (s :: (ls ++ [[]])) out = _
    unfold parseS
    cases lineS s with
    | error e => rfl
    | ok o =>
      cases o with
      | none => exact parseS_end ls (i + 1) out
      | some x => exact parseS_end ls (i + 1) (out ++ [x])
def parseT (text : List UInt8) : Except (Int × Nat) (List Said) :=
  if 65536 < text.length then .error (4, 0) else match parseS 0 (cutAt 10 text) [] with
    | .error e => .error e
    | .ok out => if 64 < out.length then .error (7, 64) else .ok out
end Go.Proofs.Sr
