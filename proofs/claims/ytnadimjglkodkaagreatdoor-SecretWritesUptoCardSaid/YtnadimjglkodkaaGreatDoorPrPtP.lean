/- pool: addresses as text, read and written, in plain Lean. -/
import Derived.Lib.ParseIntB
import Derived.Test.YtnadimjglkodkaaGreatDoorPrPlAddr
namespace Go.Proofs.Pt
open Go Go.Pl Go.Lib
theorem cutAt_app (c : UInt8) : ∀ (p r : List UInt8), (∀ x ∈ p, x ≠ c) → cutAt c (p ++ c :: r) = p :: cutAt c r
  | [], r, _ => by simp [cutAt]
  | x :: p, r, h => by
    have hx : x ≠ c := h x (List.mem_cons_self ..)
    have ih := cutAt_app c p r (fun y hy => h y (List.mem_cons_of_mem _ hy))
    show cutAt c (x :: (p ++ c :: r)) = _
    conv => lhs; unfold cutAt
    rw [if_neg (by simpa using hx), ih]; rfl
theorem cutAt_all (c : UInt8) : ∀ (p : List UInt8), (∀ x ∈ p, x ≠ c) → cutAt c p = [p]
  | [], _ => by simp [cutAt]
  | x :: p, h => by
    have hx : x ≠ c := h x (List.mem_cons_self ..)
    have ih := cutAt_all c p (fun y hy => h y (List.mem_cons_of_mem _ hy))
    conv => lhs; unfold cutAt
    rw [if_neg (by simpa using hx), ih]; rfl
def blankB (c : UInt8) : Bool := c == 32 || c == 9
/-- Without blanks at the ends. -/
def trimL (l : List UInt8) : List UInt8 := ((l.dropWhile blankB).reverse.dropWhile blankB).reverse
/-- A text at the first byte of a kind. -/
def cut1 (c : UInt8) : List UInt8 → List UInt8 × Option (List UInt8)
  | [] => ([], none)
  | x :: l => if x = c then ([], some l) else (x :: (cut1 c l).1, (cut1 c l).2)
/-- An address that is not 0. -/
def addrP (l : List UInt8) : Option Nat := match addrOf l with
  | some n => if 0 < n then some n else none
  | none => none
/-- What a part says. -/
def partL (p : List UInt8) : Option (Nat × Nat) := match (cut1 45 p).2 with
  | none => (addrP (trimL (cut1 45 p).1)).map fun n => (n, n)
  | some b => match addrP (trimL (cut1 45 p).1), addrP (trimL b) with
    | some lo, some hi => if lo ≤ hi then some (lo, hi) else none
    | _, _ => none
/-- So many numbers, from one on, if none is there. -/
def addL : Nat → Nat → List Nat → Option (List Nat)
  | 0, _, out => some out
  | k + 1, a, out => if a ∈ out then none else addL k (a + 1) (out ++ [a])
def parseL : Nat → List (List UInt8) → List Nat → Except (Int × Nat) (List Nat)
  | _, [], out => .ok out
  | i, p :: ps, out => match partL p with
    | none => .error (150, i)
    | some (lo, hi) => if 256 < out.length + (hi - lo + 1) then .error (7, i) else match addL (hi - lo + 1) lo out with
      | none => .error (6, i)
      | some out2 => parseL (i + 1) ps out2
def parseR (l : List UInt8) : Except (Int × Nat) (List Nat) := if 65536 < l.length then .error (4, 0) else parseL 0 (cutAt 44 l) []
/-- What is wrong of addresses. -/
def faultR (l : List Int) : Int := if 256 < l.length then 7 else if l.any (fun a => decide (a < 1) || decide (4294967295 < a)) then 150 else if l.Nodup then 0 else 6
def textN (n : Nat) : List UInt8 := textA (n / 16777216 % 256) (n / 65536 % 256) (n / 256 % 256) (n % 256)
/-- Numbers one behind the other, as their first and last. -/
def runs : List Nat → List (Nat × Nat)
  | [] => []
  | a :: l => match runs l with
    | [] => [(a, a)]
    | (b, c) :: rs => if b = a + 1 then (a, c) :: rs else (a, a) :: (b, c) :: rs
def runT (r : Nat × Nat) : List UInt8 := if r.1 = r.2 then textN r.1 else textN r.1 ++ 45 :: textN r.2
def printT (l : List Nat) : List UInt8 := List.intercalate [44, 32] ((runs l).map runT)
def span (r : Nat × Nat) : List Nat := List.range' r.1 (r.2 - r.1 + 1)
theorem runs_le : ∀ (l : List Nat), ∀ r ∈ runs l, r.1 ≤ r.2
  | [], r, h => by cases h
  | a :: l, r, h => by
    have ih := runs_le l
    unfold runs at h
    cases hr : runs l with
    | nil =>
      rw [hr] at h
      have : r = (a, a) := by simpa using h
      subst this; exact Nat.le_refl _
    | cons bc rs =>
      obtain ⟨b, c⟩ := bc
      rw [hr] at h ih
      simp only at h
      have hbc : b ≤ c := ih (b, c) (List.mem_cons_self ..)
      split at h
      · rename_i hb
        rcases List.mem_cons.1 h with rfl | h
        · show a ≤ c; omega
        · exact ih r (List.mem_cons_of_mem _ h)
      · rcases List.mem_cons.1 h with rfl | h
        · exact Nat.le_refl _
        · exact ih r h
theorem runs_all : ∀ (l : List Nat), (runs l).flatMap span = l
  | [] => rfl
  | a :: l => by
    have ih := runs_all l
    have hle := runs_le l
    unfold runs
    cases hr : runs l with
    | nil =>
      rw [hr] at ih
      have : l = [] := by simpa using ih.symm
      subst this
      simp [span]
    | cons bc rs =>
      obtain ⟨b, c⟩ := bc
      rw [hr] at ih hle
      have hbc : b ≤ c := hle (b, c) (List.mem_cons_self ..)
      simp only
      split
      · rename_i hb
        subst hb
        rw [List.flatMap_cons] at ih ⊢
        rw [← ih]
        have : span (a, c) = a :: span (a + 1, c) := by
          unfold span
          show List.range' a (c - a + 1) = a :: List.range' (a + 1) (c - (a + 1) + 1)
          rw [show c - a + 1 = (c - (a + 1) + 1) + 1 by omega, List.range'_succ]
        rw [this]; rfl
      · rw [List.flatMap_cons, ih]
        simp [span]
theorem addL_span : ∀ (k a : Nat) (out : List Nat), (out ++ List.range' a k).Nodup → addL k a out = some (out ++ List.range' a k)
  | 0, a, out, _ => by simp [addL]
  | k + 1, a, out, h => by
    rw [List.range'_succ] at h ⊢
    have hne : a ∉ out := fun hm => by
      rw [List.nodup_append] at h
      exact h.2.2 a hm a (List.mem_cons_self ..) rfl
    unfold addL
    rw [if_neg hne, addL_span k (a + 1) (out ++ [a]) (by simpa using h)]
    simp
/-- What a reader of 8 bits and a writer ask, together. -/
theorem uint_dd : ∀ k, k < 256 → parseUintB 8 (dd k) = .ok k := by decide +kernel
theorem octet_uint (p : List UInt8) (k : Nat) : octet p = some k ↔ parseUintB 8 p = .ok k ∧ k < 256 ∧ dd k = p := by
  constructor
  · intro h
    obtain ⟨h1, rfl⟩ := octet_some h
    exact ⟨uint_dd k h1, h1, rfl⟩
  · rintro ⟨_, h1, rfl⟩
    exact octet_dd k h1
/-! ### what is written is read as it was -/

theorem dd_dig : ∀ k, k < 256 → ∀ c ∈ dd k, dig c = true := by decide +kernel
theorem textA_chars {a b c d : Nat} (ha : a < 256) (hb : b < 256) (hc : c < 256) (hd : d < 256) : ∀ x ∈ textA a b c d, x = 46 ∨ dig x = true := by
  intro x hx
  unfold textA at hx
  simp only [List.mem_append, List.mem_cons] at hx
  rcases hx with h | h | h | h | h | h | h
  · exact .inr (dd_dig a ha x h)
  · exact .inl h
  · exact .inr (dd_dig b hb x h)
  · exact .inl h
  · exact .inr (dd_dig c hc x h)
  · exact .inl h
  · exact .inr (dd_dig d hd x h)
theorem textN_chars (n : Nat) : ∀ x ∈ textN n, x = 46 ∨ dig x = true := textA_chars (Nat.mod_lt _ (by decide)) (Nat.mod_lt _ (by decide)) (Nat.mod_lt _ (by decide)) (Nat.mod_lt _ (by decide))
theorem char_ne {x c : UInt8} (h : x = 46 ∨ dig x = true) (hc : c ≠ 46) (hd : dig c = false) : x ≠ c := fun e => by
  subst e
  rcases h with h | h
  · exact hc h
  · rw [hd] at h; cases h
theorem textN_ne (n : Nat) (c : UInt8) (hc : c ≠ 46) (hd : dig c = false) : ∀ x ∈ textN n, x ≠ c := fun x hx => char_ne (textN_chars n x hx) hc hd
theorem textN_blank (n : Nat) : ∀ x ∈ textN n, blankB x = false := fun x hx => by
  have h1 := textN_ne n 32 (by decide) (by decide) x hx
  have h2 := textN_ne n 9 (by decide) (by decide) x hx
  unfold blankB; simp [h1, h2]
theorem drop_none {p : UInt8 → Bool} : ∀ (l : List UInt8), (∀ x ∈ l, p x = false) → l.dropWhile p = l
  | [], _ => rfl
  | x :: l, h => by rw [List.dropWhile_cons]; simp [h x (List.mem_cons_self ..)]
theorem trim_none {l : List UInt8} (h : ∀ x ∈ l, blankB x = false) : trimL l = l := by
  unfold trimL
  rw [drop_none l h, drop_none l.reverse (fun x hx => h x (List.mem_reverse.1 hx)), List.reverse_reverse]
theorem trim_space {l : List UInt8} (h : ∀ x ∈ l, blankB x = false) : trimL (32 :: l) = l := by
  have : trimL (32 :: l) = trimL l := by
    unfold trimL
    rw [List.dropWhile_cons]; simp [blankB]
  rw [this, trim_none h]
theorem cut1_hit (c : UInt8) : ∀ (p q : List UInt8), (∀ x ∈ p, x ≠ c) → cut1 c (p ++ c :: q) = (p, some q)
  | [], q, _ => by simp [cut1]
  | x :: p, q, h => by
    have ih := cut1_hit c p q (fun y hy => h y (List.mem_cons_of_mem _ hy))
    show cut1 c (x :: (p ++ c :: q)) = _
    unfold cut1
    rw [if_neg (h x (List.mem_cons_self ..)), ih]
theorem cut1_miss (c : UInt8) : ∀ (p : List UInt8), (∀ x ∈ p, x ≠ c) → cut1 c p = (p, none)
  | [], _ => rfl
  | x :: p, h => by
    have ih := cut1_miss c p (fun y hy => h y (List.mem_cons_of_mem _ hy))
    unfold cut1
    rw [if_neg (h x (List.mem_cons_self ..)), ih]
theorem addrP_text {n : Nat} (h1 : 1 ≤ n) (h2 : n ≤ 4294967295) : addrP (textN n) = some n := by
  unfold addrP textN
  rw [addr_text (Nat.mod_lt _ (by decide)) (Nat.mod_lt _ (by decide)) (Nat.mod_lt _ (by decide)) (Nat.mod_lt _ (by decide))]
  have e : ((n / 16777216 % 256 * 256 + n / 65536 % 256) * 256 + n / 256 % 256) * 256 + n % 256 = n := by omega
  rw [e]
  simp only
  rw [if_pos (by omega)]
theorem part_run {r : Nat × Nat} (h1 : 1 ≤ r.1) (h2 : r.1 ≤ r.2) (h3 : r.2 ≤ 4294967295) : partL (runT r) = some r ∧ partL (32 :: runT r) = some r := by
  obtain ⟨a, b⟩ := r
  have h45 := textN_ne a 45 (by decide) (by decide)
  have h45' : ∀ x ∈ (32 :: textN a : List UInt8), x ≠ 45 := fun x hx => by
    rcases List.mem_cons.1 hx with rfl | hx
    · decide
    · exact h45 x hx
  by_cases he : a = b
  · subst he
    have e : runT (a, a) = textN a := by unfold runT; rw [if_pos rfl]
    rw [e]
    unfold partL
    rw [cut1_miss 45 _ h45, cut1_miss 45 _ h45']
    simp only
    rw [trim_none (textN_blank a), trim_space (textN_blank a), addrP_text h1 h3]
    exact ⟨rfl, rfl⟩
  · have e : runT (a, b) = textN a ++ 45 :: textN b := by unfold runT; rw [if_neg he]
    have e2 : (32 :: (textN a ++ 45 :: textN b) : List UInt8) = (32 :: textN a) ++ 45 :: textN b := rfl
    rw [e, e2]
    unfold partL
    rw [cut1_hit 45 _ _ h45, cut1_hit 45 _ _ h45']
    simp only
    have hb1 : 1 ≤ b := Nat.le_trans h1 h2
    have ha3 : a ≤ 4294967295 := Nat.le_trans h2 h3
    rw [trim_none (textN_blank a), trim_space (textN_blank a), trim_none (textN_blank b), addrP_text h1 ha3, addrP_text hb1 h3]
    simp only
    have h2' : a ≤ b := h2
    rw [if_pos h2']
    exact ⟨rfl, rfl⟩
theorem runT_44 (r : Nat × Nat) : ∀ x ∈ runT r, x ≠ 44 := by
  intro x hx
  unfold runT at hx
  split at hx
  · exact textN_ne _ 44 (by decide) (by decide) x hx
  · rcases List.mem_append.1 hx with h | h
    · exact textN_ne _ 44 (by decide) (by decide) x h
    · rcases List.mem_cons.1 h with rfl | h
      · decide
      · exact textN_ne _ 44 (by decide) (by decide) x h
theorem cut_join : ∀ (t : List UInt8) (ts : List (List UInt8)), (∀ x ∈ t, x ≠ 44) → (∀ u ∈ ts, ∀ x ∈ u, x ≠ 44) → cutAt 44 (List.intercalate [44, 32] (t :: ts)) = t :: ts.map (32 :: ·)
  | t, [], h, _ => by
    have : List.intercalate [44, 32] [t] = t := by simp [List.intercalate]
    rw [this]; exact cutAt_all 44 t h
  | t, u :: ts, h, hs => by
    have ih := cut_join (32 :: u) ts (fun x hx => by
      rcases List.mem_cons.1 hx with rfl | hx
      · decide
      · exact hs u (List.mem_cons_self ..) x hx) (fun v hv => hs v (List.mem_cons_of_mem _ hv))
    have e : List.intercalate [44, 32] (t :: u :: ts) = t ++ 44 :: List.intercalate [44, 32] ((32 :: u) :: ts) := by
      cases ts with
      | nil => simp [List.intercalate, List.intersperse]
      | cons v vs => simp [List.intercalate, List.intersperse]
    rw [e, cutAt_app 44 t _ h, ih]; rfl
theorem parse_runs : ∀ (rs : List (Nat × Nat)) (ps : List (List UInt8)) (i : Nat) (out : List Nat), ps.map partL = rs.map some → (∀ r ∈ rs, r.1 ≤ r.2) → (out ++ rs.flatMap span).Nodup → (out ++ rs.flatMap span).length ≤ 256 → parseL i ps out = .ok (out ++ rs.flatMap span)
  | [], [], i, out, _, _, _, _ => by simp [parseL]
  | [], p :: ps, i, out, h, _, _, _ => by cases h
  | r :: rs, [], i, out, h, _, _, _ => by cases h
  | r :: rs, p :: ps, i, out, h, hle, hnd, hlen => by
    obtain ⟨lo, hi⟩ := r
    simp only [List.map_cons, List.cons.injEq] at h
    obtain ⟨hp, hps⟩ := h
    have hl : lo ≤ hi := hle (lo, hi) (List.mem_cons_self ..)
    rw [List.flatMap_cons, ← List.append_assoc] at hnd hlen ⊢
    have hs : (span (lo, hi)).length = hi - lo + 1 := by unfold span; rw [List.length_range']
    have hnd1 : (out ++ List.range' lo (hi - lo + 1)).Nodup := (List.nodup_append.1 hnd).1
    have ha := addL_span (hi - lo + 1) lo out hnd1
    have hlen1 : out.length + (hi - lo + 1) ≤ 256 := by
      rw [List.length_append, List.length_append, hs] at hlen; omega
    unfold parseL
    rw [hp]
    simp only
    rw [if_neg (by omega), ha]
    simp only
    exact parse_runs rs ps (i + 1) (out ++ span (lo, hi)) hps (fun r hr => hle r (List.mem_cons_of_mem _ hr)) hnd hlen
/-- What Print writes is read as it was. -/
theorem parse_print {l : List Nat} (h0 : l ≠ []) (hlen : l.length ≤ 256) (hin : ∀ a ∈ l, 1 ≤ a ∧ a ≤ 4294967295) (hnd : l.Nodup) (hsz : (printT l).length ≤ 65536) : parseR (printT l) = .ok l := by
  have hall := runs_all l
  have hle := runs_le l
  have hb : ∀ r ∈ runs l, 1 ≤ r.1 ∧ r.2 ≤ 4294967295 := fun r hr => by
    have hsub : ∀ a ∈ span r, a ∈ l := fun a ha => by rw [← hall]; exact List.mem_flatMap.2 ⟨r, hr, ha⟩
    have hr2 := hle r hr
    exact ⟨(hin _ (hsub r.1 (by unfold span; rw [List.mem_range'_1]; omega))).1, (hin _ (hsub r.2 (by unfold span; rw [List.mem_range'_1]; omega))).2⟩
  have hparts : (cutAt 44 (printT l)).map partL = (runs l).map some := by
    unfold printT
    cases hr : runs l with
    | nil => rw [hr] at hall; exact absurd (by simpa using hall.symm) h0
    | cons r rs =>
      rw [hr] at hb hle
      rw [List.map_cons, cut_join _ _ (runT_44 r) (fun u hu => by
        obtain ⟨q, _, rfl⟩ := List.mem_map.1 hu
        exact runT_44 q)]
      simp only [List.map_cons, List.map_map, List.cons.injEq]
      refine ⟨(part_run (hb r (List.mem_cons_self ..)).1 (hle r (List.mem_cons_self ..)) (hb r (List.mem_cons_self ..)).2).1, List.map_congr_left fun q hq => ?_⟩
      exact (part_run (hb q (List.mem_cons_of_mem _ hq)).1 (hle q (List.mem_cons_of_mem _ hq)) (hb q (List.mem_cons_of_mem _ hq)).2).2
  unfold parseR
  rw [if_neg (by omega), parse_runs (runs l) _ 0 [] hparts hle (by rw [List.nil_append, hall]; exact hnd) (by rw [List.nil_append, hall]; exact hlen), List.nil_append, hall]
/-! ### a run, as a loop finds it -/

theorem runs_head (a : Nat) (l : List Nat) : ∃ c rs, runs (a :: l) = (a, c) :: rs := by
  unfold runs
  cases runs l with
  | nil => exact ⟨a, [], rfl⟩
  | cons bc rs =>
    obtain ⟨b, c⟩ := bc
    simp only
    split
    · exact ⟨c, rs, rfl⟩
    · exact ⟨a, _, rfl⟩
/-- A run ends where the next number is no neighbour. -/
theorem runs_stop (a : Nat) (l : List Nat) (h : ∀ b, l.head? = some b → b ≠ a + 1) : runs (a :: l) = (a, a) :: runs l := by
  cases l with
  | nil => rfl
  | cons b l =>
    obtain ⟨c, rs, e⟩ := runs_head b l
    have hb := h b rfl
    conv => lhs; unfold runs
    rw [e]
    simp only
    rw [if_neg hb]
/-- .. and goes on where it is. -/
theorem runs_go (a c : Nat) (l : List Nat) (rs : List (Nat × Nat)) (h : runs ((a + 1) :: l) = (a + 1, c) :: rs) : runs (a :: (a + 1) :: l) = (a, c) :: rs := by
  conv => lhs; unfold runs
  rw [h]
  simp only
  rw [if_pos trivial]
/-- The first run is of the numbers that follow one another. -/
theorem runs_loop : ∀ (m a : Nat) (l : List Nat), (∀ j, j < m → l[j]? = some (a + j + 1)) → (∀ b, l[m]? = some b → b ≠ a + m + 1) → runs (a :: l) = (a, a + m) :: runs (l.drop m)
  | 0, a, l, _, h2 => by
    rw [runs_stop a l (fun b hb => by
      have := h2 b (by rw [← hb]; cases l <;> rfl)
      simpa using this)]
    simp
  | m + 1, a, l, h1, h2 => by
    cases l with
    | nil => have := h1 0 (Nat.succ_pos m); cases this
    | cons b l =>
      have hb : b = a + 1 := by have := h1 0 (Nat.succ_pos m); simpa using this
      subst hb
      have ih := runs_loop m (a + 1) l (fun j hj => by
        have := h1 (j + 1) (by omega)
        rw [List.getElem?_cons_succ] at this
        rw [this]; congr 1; omega) (fun b hb => by
        have := h2 b (by rw [List.getElem?_cons_succ]; exact hb)
        omega)
      rw [runs_go a _ l _ ih, List.drop_succ_cons]
      congr 2
      omega
/-- One more part behind others. -/
theorem inter_snoc (sep : List UInt8) : ∀ (ts : List (List UInt8)) (t : List UInt8), List.intercalate sep (ts ++ [t]) = if ts = [] then t else List.intercalate sep ts ++ sep ++ t
  | [], t => by simp [List.intercalate]
  | [u], t => by simp [List.intercalate, List.intersperse]
  | u :: v :: ts, t => by
    have ih := inter_snoc sep (v :: ts) t
    have e1 : List.intercalate sep ((u :: v :: ts) ++ [t]) = u ++ sep ++ List.intercalate sep ((v :: ts) ++ [t]) := by
      cases ts with
      | nil => simp [List.intercalate, List.intersperse]
      | cons w ws => simp [List.intercalate, List.intersperse]
    have e2 : List.intercalate sep (u :: v :: ts) = u ++ sep ++ List.intercalate sep (v :: ts) := by
      cases ts with
      | nil => simp [List.intercalate, List.intersperse]
      | cons w ws => simp [List.intercalate, List.intersperse]
    rw [e1, ih, e2, if_neg (by simp), if_neg (by simp)]
    simp
theorem runT_len (r : Nat × Nat) : (runT r).length ≤ 31 := by
  have dl : ∀ k, (dd k).length ≤ 3 := fun k => by unfold dd; split <;> (try split) <;> simp
  have tl : ∀ n, (textN n).length ≤ 15 := fun n => by
    have h1 := dl (n / 16777216 % 256); have h2 := dl (n / 65536 % 256); have h3 := dl (n / 256 % 256); have h4 := dl (n % 256)
    unfold textN textA
    simp only [List.length_append, List.length_cons]; omega
  have h1 := tl r.1; have h2 := tl r.2
  unfold runT
  split
  · omega
  · simp only [List.length_append, List.length_cons]; omega
theorem runs_len : ∀ l : List Nat, (runs l).length ≤ l.length
  | [] => Nat.le_refl _
  | a :: l => by
    have ih := runs_len l
    unfold runs
    cases hr : runs l with
    | nil => simp
    | cons bc rs =>
      obtain ⟨b, c⟩ := bc
      rw [hr] at ih
      simp only [List.length_cons] at ih ⊢
      split <;> simp <;> omega
theorem join_le : ∀ ts : List (List UInt8), (∀ t ∈ ts, t.length ≤ 31) → (List.intercalate [44, 32] ts).length ≤ 33 * ts.length
  | [], _ => by simp [List.intercalate]
  | [t], h => by
    have := h t (List.mem_cons_self ..)
    simp [List.intercalate]; omega
  | t :: u :: ts, h => by
    have ih := join_le (u :: ts) (fun v hv => h v (List.mem_cons_of_mem _ hv))
    have ht := h t (List.mem_cons_self ..)
    have e : List.intercalate [44, 32] (t :: u :: ts) = t ++ [44, 32] ++ List.intercalate [44, 32] (u :: ts) := by
      cases ts with
      | nil => simp [List.intercalate, List.intersperse]
      | cons w ws => simp [List.intercalate, List.intersperse]
    rw [e, List.length_append, List.length_append, List.length_cons]
    simp only [List.length_cons, List.length_nil] at ih ⊢
    omega
/-- A pool's text is short. -/
theorem print_len (l : List Nat) (h : l.length ≤ 256) : (printT l).length ≤ 8448 := by
  unfold printT
  have h1 := join_le ((runs l).map runT) (fun t ht => by
    obtain ⟨r, _, rfl⟩ := List.mem_map.1 ht
    exact runT_len r)
  have h2 := runs_len l
  rw [List.length_map] at h1
  omega
end Go.Proofs.Pt
