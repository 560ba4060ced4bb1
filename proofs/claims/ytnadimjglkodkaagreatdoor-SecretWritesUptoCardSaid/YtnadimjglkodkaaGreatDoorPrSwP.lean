/- secrets: a file is written and read as it was, in plain Lean. -/
import Derived.Test.YtnadimjglkodkaaGreatDoorPrSrP
import Derived.Test.YtnadimjglkodkaaGreatDoorPrPtP
namespace Go.Proofs.Sr
open Go Go.Pl Go.Lib Go.Proofs.Sa Go.Proofs.Pt
/-- A byte of a name. -/
def okC (c : UInt8) : Prop := 32 ≤ c.toNat ∧ c.toNat ≤ 126 ∧ c.toNat ≠ 34 ∧ c.toNat ≠ 92
def inQ (w : List UInt8) : Bool := w.isEmpty || w.contains 32 || w.contains 35
/-- A word as it is written. -/
def wordP (w : List UInt8) : List UInt8 := if inQ w then 34 :: (w ++ [34]) else w
/-- Nothing follows, or a blank. -/
def endS (rest : List UInt8) : Prop := rest = [] ∨ ∃ q, rest = 32 :: q
theorem endS_head {rest : List UInt8} (h : endS rest) : rest.head?.all stopS = true := by
  rcases h with rfl | ⟨q, rfl⟩
  · rfl
  · show stopS 32 = true
    decide
theorem quoS_name : ∀ (w acc rest : List UInt8), (∀ x ∈ w, okC x) → endS rest → quoS acc (w ++ 34 :: rest) = some (acc ++ w, rest)
  | [], acc, rest, _, he => by
    show quoS acc (34 :: rest) = _
    rw [quoS_end rfl, if_pos (endS_head he)]; simp
  | x :: w, acc, rest, h, he => by
    have hx := h x (List.mem_cons_self ..)
    show quoS acc (x :: (w ++ 34 :: rest)) = _
    rw [quoS_step hx.2.2.1 hx.2.2.2, quoS_name w _ rest (fun y hy => h y (List.mem_cons_of_mem _ hy)) he]; simp
theorem u8_eq {x : UInt8} {k : Nat} (hk : k < 256) (h : x.toNat = k) : x = UInt8.ofNat k := UInt8.toNat_inj.1 (by rw [h]; simp; omega)
theorem stop_no {x : UInt8} (h : okC x) (h1 : x ≠ 32) (h2 : x ≠ 35) : stopS x = false := by
  have h9 : x ≠ 9 := fun e => by subst e; exact absurd h.1 (by decide)
  have h13 : x ≠ 13 := fun e => by subst e; exact absurd h.1 (by decide)
  unfold stopS blkS
  simp [h1, h2, h9, h13]
theorem bareS_name : ∀ (w rest : List UInt8), (∀ x ∈ w, okC x ∧ x ≠ 32 ∧ x ≠ 35) → endS rest → bareS (w ++ rest) = some w.length
  | [], rest, _, he => by
    rcases he with rfl | ⟨q, rfl⟩
    · rfl
    · show bareS (32 :: q) = _
      unfold bareS; rw [if_pos (by decide)]; rfl
  | x :: w, rest, h, he => by
    have hx := h x (List.mem_cons_self ..)
    show bareS (x :: (w ++ rest)) = _
    unfold bareS
    rw [if_neg (by simp [stop_no hx.1 hx.2.1 hx.2.2]), if_neg hx.1.2.2.1, bareS_name w rest (fun y hy => h y (List.mem_cons_of_mem _ hy)) he]; simp
theorem blk_stop {x : UInt8} (h : stopS x = false) : blkS x = false ∧ x.toNat ≠ 35 := by
  unfold stopS at h
  simp only [Bool.or_eq_false_iff, beq_eq_false_iff_ne] at h
  exact ⟨h.1, fun e => h.2 (u8_eq (by decide) e)⟩
/-- A word that is written is read. -/
theorem wordsS_word (k : Nat) (acc : List (List UInt8)) (w rest : List UInt8) (h : ∀ x ∈ w, okC x) (he : endS rest) : wordsS (k + 1) acc (wordP w ++ rest) = wordsS k (acc ++ [w]) rest := by
  unfold wordP
  by_cases hq : inQ w = true
  · rw [if_pos hq]
    show wordsS (k + 1) acc (34 :: (w ++ [34] ++ rest)) = _
    have e : w ++ [34] ++ rest = w ++ 34 :: rest := by simp
    rw [e]
    conv => lhs; unfold wordsS
    rw [if_neg (by decide), if_neg (by decide), if_pos (by decide), quoS_name w [] rest h he]
    rfl
  · rw [if_neg hq]
    unfold inQ at hq
    simp only [Bool.or_eq_true, not_or, List.contains_iff_mem, List.isEmpty_iff] at hq
    obtain ⟨⟨h0, h32⟩, h35⟩ := hq
    have hall : ∀ x ∈ w, okC x ∧ x ≠ 32 ∧ x ≠ 35 := fun x hx => ⟨h x hx, fun e => h32 (e ▸ hx), fun e => h35 (e ▸ hx)⟩
    cases w with
    | nil => exact absurd rfl h0
    | cons x w =>
      have hx := hall x (List.mem_cons_self ..)
      have hs := stop_no hx.1 hx.2.1 hx.2.2
      obtain ⟨hb, h35'⟩ := blk_stop hs
      have hbare := bareS_name (x :: w) rest hall he
      show wordsS (k + 1) acc (x :: (w ++ rest)) = _
      conv => lhs; unfold wordsS
      rw [if_neg (by simp [hb]), if_neg h35', if_neg hx.1.2.2.1]
      have hbare' : bareS (x :: (w ++ rest)) = some (x :: w).length := hbare
      rw [hbare']
      simp
theorem wordsS_space (k : Nat) (acc : List (List UInt8)) (rest : List UInt8) : wordsS (k + 1) acc (32 :: rest) = wordsS k acc rest := by
  conv => lhs; unfold wordsS
  rw [if_pos (by decide)]
/-- Words with blanks between. -/
theorem wordsS_join : ∀ (ws : List (List UInt8)) (w : List UInt8) (k : Nat) (acc : List (List UInt8)), (∀ u ∈ w :: ws, ∀ x ∈ u, okC x) → wordsS (2 * ws.length + 2 + k) acc (List.intercalate [32] ((w :: ws).map wordP)) = some (acc ++ w :: ws)
  | [], w, k, acc, h => by
    have e : List.intercalate [32] ([w].map wordP) = wordP w ++ [] := by simp [List.intercalate]
    rw [e, show 2 * ([] : List (List UInt8)).length + 2 + k = (k + 1) + 1 by simp; omega, wordsS_word _ _ _ _ (h w (List.mem_cons_self ..)) (.inl rfl)]
    rfl
  | u :: ws, w, k, acc, h => by
    have ih := wordsS_join ws u k (acc ++ [w]) (fun v hv => h v (List.mem_cons_of_mem _ hv))
    have e : List.intercalate [32] ((w :: u :: ws).map wordP) = wordP w ++ 32 :: List.intercalate [32] ((u :: ws).map wordP) := by
      cases ws with
      | nil => simp [List.intercalate, List.intersperse]
      | cons v vs => simp [List.intercalate, List.intersperse]
    rw [e, show 2 * (u :: ws).length + 2 + k = ((2 * ws.length + 2 + k) + 1) + 1 by simp; omega, wordsS_word _ _ _ _ (h w (List.mem_cons_self ..)) (.inr ⟨_, rfl⟩), wordsS_space, ih]
    simp
theorem textN_ok (n : Nat) : ∀ x ∈ textN n, okC x := fun x hx => by
  rcases textN_chars n x hx with h | h
  · subst h; unfold okC; decide
  · unfold dig at h
    simp only [Bool.and_eq_true, decide_eq_true_eq] at h
    unfold okC; omega
theorem textN_nonempty (n : Nat) : textN n ≠ [] := fun h => by
  have := addr_text (Nat.mod_lt (n / 16777216) (show 0 < 256 by decide)) (Nat.mod_lt (n / 65536) (show 0 < 256 by decide)) (Nat.mod_lt (n / 256) (show 0 < 256 by decide)) (Nat.mod_lt n (show 0 < 256 by decide))
  have h2 : textA (n / 16777216 % 256) (n / 65536 % 256) (n / 256 % 256) (n % 256) = [] := h
  rw [h2] at this
  cases this
theorem wordP_text (n : Nat) : wordP (textN n) = textN n := by
  unfold wordP
  have h1 : (32 : UInt8) ∉ textN n := fun h => textN_ne n 32 (by decide) (by decide) 32 h rfl
  have h2 : (35 : UInt8) ∉ textN n := fun h => textN_ne n 35 (by decide) (by decide) 35 h rfl
  rw [if_neg]
  unfold inQ
  simp only [Bool.or_eq_true, not_or, List.contains_iff_mem, List.isEmpty_iff]
  exact ⟨⟨textN_nonempty n, h1⟩, h2⟩
/-- An address is read as it was. -/
theorem addrR_text {n : Nat} (h2 : n ≤ 4294967295) : addrR (textN n) = ((n : Int), 0) := by
  have : addrOf (textN n) = some n := by
    unfold textN
    rw [addr_text (Nat.mod_lt _ (by decide)) (Nat.mod_lt _ (by decide)) (Nat.mod_lt _ (by decide)) (Nat.mod_lt _ (by decide))]
    exact congrArg some (by omega)
  unfold addrR
  rw [this]
def lineP (c sv wd : List UInt8) (zs : List Nat) : List UInt8 := List.intercalate [32] ((c :: sv :: wd :: zs.map textN).map wordP)
theorem adrs_text : ∀ zs : List Nat, (∀ z ∈ zs, z ≤ 4294967295) → adrs (zs.map textN) = zs.map (fun (z : Nat) => (z : Int)) ∧ bads (zs.map textN) = 0
  | [], _ => ⟨rfl, rfl⟩
  | z :: zs, h => by
    obtain ⟨h1, h2⟩ := adrs_text zs (fun y hy => h y (List.mem_cons_of_mem _ hy))
    have hz := addrR_text (h z (List.mem_cons_self ..))
    constructor
    · show (addrR (textN z)).1 :: adrs (zs.map textN) = _
      rw [hz, h1]; rfl
    · show (if (addrR (textN z)).2 ≠ 0 then _ else bads (zs.map textN)) = 0
      rw [hz, h2]; rfl
/-- A line that is written is read as it was. -/
theorem line_back {c sv wd : List UInt8} {zs : List Nat} (hc : ∀ x ∈ c, okC x) (hs : ∀ x ∈ sv, okC x) (hw : ∀ x ∈ wd, okC x) (hz : ∀ z ∈ zs, z ≤ 4294967295)
    (hr : rightR (str c) (str sv) (str wd) (zs.map (fun (z : Nat) => (z : Int))) = 0) (hlen : (lineP c sv wd zs).length ≤ 1024) (hmin : 2 * (zs.length + 2) + 2 ≤ (lineP c sv wd zs).length + 1) :
    lineS (lineP c sv wd zs) = .ok (some (c, sv, wd, zs.map (fun (z : Nat) => (z : Int)))) := by
  obtain ⟨h1, h2⟩ := adrs_text zs hz
  have hws : wordsS ((lineP c sv wd zs).length + 1) [] (lineP c sv wd zs) = some (c :: sv :: wd :: zs.map textN) := by
    have hk : ∃ k, (lineP c sv wd zs).length + 1 = 2 * (sv :: wd :: zs.map textN).length + 2 + k := by
      refine ⟨(lineP c sv wd zs).length + 1 - (2 * (zs.length + 2) + 2), ?_⟩
      simp only [List.length_cons, List.length_map]
      omega
    obtain ⟨k, hk⟩ := hk
    rw [hk]
    have := wordsS_join (sv :: wd :: zs.map textN) c k [] (fun u hu => by
      rcases List.mem_cons.1 hu with rfl | hu
      · exact hc
      rcases List.mem_cons.1 hu with rfl | hu
      · exact hs
      rcases List.mem_cons.1 hu with rfl | hu
      · exact hw
      obtain ⟨z, _, rfl⟩ := List.mem_map.1 hu
      exact textN_ok z)
    exact this
  have hwhy : whyP c sv wd (zs.map textN) = 0 := by
    unfold whyP
    rw [h1, h2]
    simp only [ne_eq, not_true, false_and, if_false]
    exact hr
  unfold lineS
  rw [if_neg (by omega), hws]
  simp only [hwhy, ne_eq, not_true, if_false, h1]
def wlen (ws : List (List UInt8)) : Nat := (ws.map fun u => (wordP u).length + 1).sum
theorem join_len : ∀ (ws : List (List UInt8)) (w : List UInt8), (List.intercalate [32] ((w :: ws).map wordP)).length + 1 = wlen (w :: ws)
  | [], w => by simp [List.intercalate, wlen]
  | u :: ws, w => by
    have ih := join_len ws u
    have e : List.intercalate [32] ((w :: u :: ws).map wordP) = wordP w ++ 32 :: List.intercalate [32] ((u :: ws).map wordP) := by
      cases ws with
      | nil => simp [List.intercalate, List.intersperse]
      | cons v vs => simp [List.intercalate, List.intersperse]
    have e2 : wlen (w :: u :: ws) = (wordP w).length + 1 + wlen (u :: ws) := by simp [wlen]
    rw [e, e2, List.length_append, List.length_cons, ← ih]; omega
theorem wordP_len (w : List UInt8) : 1 ≤ (wordP w).length ∧ (wordP w).length ≤ w.length + 2 := by
  unfold wordP
  split
  · simp
  · rename_i h
    unfold inQ at h
    cases w with
    | nil => exact absurd rfl h
    | cons x w => simp
theorem wlen_lo : ∀ ws : List (List UInt8), 2 * ws.length ≤ wlen ws
  | [] => Nat.le_refl _
  | w :: ws => by
    have := wlen_lo ws
    have h := (wordP_len w).1
    have e : wlen (w :: ws) = (wordP w).length + 1 + wlen ws := by simp [wlen]
    rw [e, List.length_cons]; omega
theorem textN_len (n : Nat) : (textN n).length ≤ 15 := by
  have dl : ∀ k, (dd k).length ≤ 3 := fun k => by unfold dd; split <;> (try split) <;> simp
  have h1 := dl (n / 16777216 % 256); have h2 := dl (n / 65536 % 256); have h3 := dl (n / 256 % 256); have h4 := dl (n % 256)
  unfold textN textA
  simp only [List.length_append, List.length_cons]; omega
theorem wlen_texts : ∀ zs : List Nat, wlen (zs.map textN) ≤ 16 * zs.length
  | [] => Nat.le_refl _
  | z :: zs => by
    have := wlen_texts zs
    have h := textN_len z
    have e : wlen ((z :: zs).map textN) = (wordP (textN z)).length + 1 + wlen (zs.map textN) := by simp [wlen]
    rw [e, wordP_text, List.length_cons]; omega
theorem line_len {c sv wd : List UInt8} {zs : List Nat} (hc : c.length ≤ 64) (hs : sv.length ≤ 64) (hw : wd.length ≤ 64) (hz : zs.length ≤ 16) : (lineP c sv wd zs).length ≤ 457 ∧ 2 * (zs.length + 2) + 2 ≤ (lineP c sv wd zs).length + 1 := by
  have h := join_len (sv :: wd :: zs.map textN) c
  have hlo := wlen_lo (c :: sv :: wd :: zs.map textN)
  have hhi := wlen_texts zs
  have e : wlen (c :: sv :: wd :: zs.map textN) = (wordP c).length + 1 + ((wordP sv).length + 1 + ((wordP wd).length + 1 + wlen (zs.map textN))) := by simp [wlen]
  have h1 := (wordP_len c).2; have h2 := (wordP_len sv).2; have h3 := (wordP_len wd).2
  have hl : (lineP c sv wd zs).length + 1 = wlen (c :: sv :: wd :: zs.map textN) := h
  simp only [List.length_cons, List.length_map] at hlo
  omega
theorem wordP_10 {w : List UInt8} (h : ∀ x ∈ w, okC x) : ∀ x ∈ wordP w, x ≠ 10 := by
  intro x hx e
  subst e
  have hn : (10 : UInt8) ∉ w := fun hm => absurd (h 10 hm).1 (by decide)
  unfold wordP at hx
  split at hx
  · simp only [List.mem_cons, List.mem_append, List.not_mem_nil, or_false] at hx
    rcases hx with hx | hx | hx
    · exact absurd hx (by decide)
    · exact hn hx
    · exact absurd hx (by decide)
  · exact hn hx
theorem join_10 : ∀ (ws : List (List UInt8)), (∀ u ∈ ws, ∀ x ∈ u, okC x) → ∀ x ∈ List.intercalate [32] (ws.map wordP), x ≠ 10
  | [], _, x, hx => by simp [List.intercalate] at hx
  | [w], h, x, hx => by
    have : x ∈ wordP w := by simpa [List.intercalate] using hx
    exact wordP_10 (h w (List.mem_cons_self ..)) x this
  | w :: u :: ws, h, x, hx => by
    have e : List.intercalate [32] ((w :: u :: ws).map wordP) = wordP w ++ 32 :: List.intercalate [32] ((u :: ws).map wordP) := by
      cases ws with
      | nil => simp [List.intercalate, List.intersperse]
      | cons v vs => simp [List.intercalate, List.intersperse]
    rw [e] at hx
    rcases List.mem_append.1 hx with hx | hx
    · exact wordP_10 (h w (List.mem_cons_self ..)) x hx
    · rcases List.mem_cons.1 hx with rfl | hx
      · decide
      · exact join_10 (u :: ws) (fun v hv => h v (List.mem_cons_of_mem _ hv)) x hx
/-- A secret's words and addresses that can be written. -/
structure Fine (x : List UInt8 × List UInt8 × List UInt8 × List Nat) : Prop where
  c : ∀ y ∈ x.1, okC y
  s : ∀ y ∈ x.2.1, okC y
  w : ∀ y ∈ x.2.2.1, okC y
  z : ∀ y ∈ x.2.2.2, y ≤ 4294967295
  cl : x.1.length ≤ 64
  sl : x.2.1.length ≤ 64
  wl : x.2.2.1.length ≤ 64
  zl : x.2.2.2.length ≤ 16
  right : rightR (str x.1) (str x.2.1) (str x.2.2.1) (x.2.2.2.map (fun (z : Nat) => (z : Int))) = 0
def lineX (x : List UInt8 × List UInt8 × List UInt8 × List Nat) : List UInt8 := lineP x.1 x.2.1 x.2.2.1 x.2.2.2
def saidX (x : List UInt8 × List UInt8 × List UInt8 × List Nat) : Said := (x.1, x.2.1, x.2.2.1, x.2.2.2.map (fun (z : Nat) => (z : Int)))
theorem line_fine {x : List UInt8 × List UInt8 × List UInt8 × List Nat} (h : Fine x) : lineS (lineX x) = .ok (some (saidX x)) := by
  have hl := line_len h.cl h.sl h.wl h.zl
  exact line_back h.c h.s h.w h.z h.right (Nat.le_trans hl.1 (by decide)) hl.2
theorem lineX_10 {x : List UInt8 × List UInt8 × List UInt8 × List Nat} (h : Fine x) : ∀ y ∈ lineX x, y ≠ 10 := by
  refine join_10 _ (fun u hu => ?_)
  rcases List.mem_cons.1 hu with rfl | hu
  · exact h.c
  rcases List.mem_cons.1 hu with rfl | hu
  · exact h.s
  rcases List.mem_cons.1 hu with rfl | hu
  · exact h.w
  obtain ⟨z, _, rfl⟩ := List.mem_map.1 hu
  exact textN_ok z
def fileP (l : List (List UInt8 × List UInt8 × List UInt8 × List Nat)) : List UInt8 := l.flatMap fun x => lineX x ++ [10]
theorem cut_file : ∀ l : List (List UInt8 × List UInt8 × List UInt8 × List Nat), (∀ x ∈ l, Fine x) → cutAt 10 (fileP l) = l.map lineX ++ [[]]
  | [], _ => rfl
  | x :: l, h => by
    have ih := cut_file l (fun y hy => h y (List.mem_cons_of_mem _ hy))
    have e : fileP (x :: l) = lineX x ++ 10 :: fileP l := by simp [fileP]
    rw [e, cutAt_app 10 _ _ (lineX_10 (h x (List.mem_cons_self ..))), ih]; rfl
theorem parse_file : ∀ (l : List (List UInt8 × List UInt8 × List UInt8 × List Nat)) (i : Nat) (out : List Said), (∀ x ∈ l, Fine x) → parseS i (l.map lineX) out = .ok (out ++ l.map saidX)
  | [], i, out, _ => by simp [parseS]
  | x :: l, i, out, h => by
    show parseS i (lineX x :: l.map lineX) out = _
    unfold parseS
    rw [line_fine (h x (List.mem_cons_self ..))]
    simp only
    rw [parse_file l _ _ (fun y hy => h y (List.mem_cons_of_mem _ hy))]; simp
theorem file_len : ∀ l : List (List UInt8 × List UInt8 × List UInt8 × List Nat), (∀ x ∈ l, Fine x) → (fileP l).length ≤ 458 * l.length
  | [], _ => Nat.le_refl _
  | x :: l, h => by
    have ih := file_len l (fun y hy => h y (List.mem_cons_of_mem _ hy))
    have hx := h x (List.mem_cons_self ..)
    have hl := (line_len hx.cl hx.sl hx.wl hx.zl).1
    have e : (fileP (x :: l)).length = (lineX x).length + 1 + (fileP l).length := by simp [fileP]; omega
    have hl' : (lineX x).length ≤ 457 := hl
    rw [e, List.length_cons]; omega
/-- What Print writes is read as it was. -/
theorem file_back {l : List (List UInt8 × List UInt8 × List UInt8 × List Nat)} (h : ∀ x ∈ l, Fine x) (hn : l.length ≤ 64) : parseT (fileP l) = .ok (l.map saidX) := by
  have hl := file_len l h
  unfold parseT
  rw [if_neg (by omega), cut_file l h, parseS_end, parse_file l 0 [] h]
  simp only [List.nil_append, List.length_map]
  rw [if_neg (by omega)]
end Go.Proofs.Sr
