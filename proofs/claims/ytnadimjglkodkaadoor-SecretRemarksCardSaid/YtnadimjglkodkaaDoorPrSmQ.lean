/- secrets: a file with lines and ends put in says what it said, in plain Lean. -/
import Derived.Test.YtnadimjglkodkaaDoorPrSmP
import Derived.Test.YtnadimjglkodkaaDoorPrPtP
namespace Go.Proofs.Sr
open Go Go.Pl Go.Lib Go.Proofs.Sa Go.Proofs.Pt
def lineK : Nat → List UInt8
  | 0 => []
  | 1 => [10]
  | 2 => [35, 32, 97, 32, 34, 114, 101, 109, 97, 114, 107, 10]
  | _ => [32, 9, 13, 10]
def endK : Nat → List UInt8
  | 0 => []
  | 1 => [32]
  | 2 => [9, 13]
  | _ => [32, 35, 32, 120]
theorem endK_after : ∀ k, after (endK k)
  | 0 => .inl rfl
  | 1 => .inr (.inl rfl)
  | 2 => .inr (.inr (.inl rfl))
  | _ + 3 => .inr (.inr (.inr rfl))
theorem endK_len : ∀ k, (endK k).length ≤ 4
  | 0 => by decide
  | 1 => by decide
  | 2 => by decide
  | _ + 3 => by show 4 ≤ 4; decide
theorem lineK_len : ∀ k, (lineK k).length ≤ 12
  | 0 => by decide
  | 1 => by decide
  | 2 => by decide
  | _ + 3 => by show 4 ≤ 12; decide
theorem endK_10 : ∀ k, ∀ x ∈ endK k, x ≠ 10
  | 0 => by decide
  | 1 => by decide
  | 2 => by decide
  | _ + 3 => by show ∀ x ∈ [(32 : UInt8), 35, 32, 120], x ≠ 10; decide
/-- Lines, each with its end. -/
def shut (M : List (List UInt8)) : List UInt8 := M.flatMap (· ++ [10])
theorem shut_snoc (M : List (List UInt8)) (l : List UInt8) : shut (M ++ [l]) = shut M ++ l ++ [10] := by simp [shut]
theorem cut_shut : ∀ (M : List (List UInt8)) (r : List UInt8), (∀ m ∈ M, ∀ x ∈ m, x ≠ 10) → cutAt 10 (shut M ++ r) = M ++ cutAt 10 r
  | [], _, _ => rfl
  | m :: M, r, h => by
    have e : shut (m :: M) ++ r = m ++ 10 :: (shut M ++ r) := by simp [shut]
    rw [e, cutAt_app 10 _ _ (h m (List.mem_cons_self ..)), cut_shut M r (fun y hy => h y (List.mem_cons_of_mem _ hy))]; rfl
theorem quiet_k : ∀ k, ∃ Q : List (List UInt8), lineK k = shut Q ∧ (∀ m ∈ Q, ∀ x ∈ m, x ≠ 10) ∧ ∀ M, says (M ++ Q) = says M
  | 0 => ⟨[], rfl, by decide, fun M => by simp⟩
  | 1 => ⟨[[]], rfl, by decide, fun M => by rw [says_app, says_cons, quiet_lines.1]; cases says M <;> simp [says]⟩
  | 2 => ⟨[[35, 32, 97, 32, 34, 114, 101, 109, 97, 114, 107]], rfl, by decide, fun M => by rw [says_app, says_cons, quiet_lines.2.1]; cases says M <;> simp [says]⟩
  | _ + 3 => ⟨[[32, 9, 13]], rfl, by decide, fun M => by rw [says_app, says_cons, quiet_lines.2.2]; cases says M <;> simp [says]⟩
/-- How far the text has been gone through, and what has been put together. -/
structure Rm (t : List UInt8) (i : Nat) (size : Int) (b : List UInt8) (L : List (List UInt8)) (cur : List UInt8) (M : List (List UInt8)) : Prop where
  le : i ≤ t.length
  eq : t = shut L ++ cur ++ t.drop i
  at_ : (shut L ++ cur).length = i
  L10 : ∀ m ∈ L, ∀ x ∈ m, x ≠ 10
  c10 : ∀ x ∈ cur, x ≠ 10
  b_eq : b = shut M ++ cur
  M10 : ∀ m ∈ M, ∀ x ∈ m, x ≠ 10
  says_eq : says M = says L
  size_eq : cur ≠ [] → size = cur.length
  len : b.length ≤ 17 * i + 17
theorem Rm.start (t : List UInt8) (size : Int) : Rm t 0 size [] [] [] [] :=
  ⟨Nat.zero_le _, rfl, rfl, fun _ h => (by cases h), fun _ h => (by cases h), rfl, fun _ h => (by cases h), rfl, fun h => absurd rfl h, Nat.zero_le _⟩
theorem shut_last {M : List (List UInt8)} (h : shut M ≠ []) : (shut M).getLast? = some 10 := by
  rcases List.eq_nil_or_concat M with rfl | ⟨M', l, rfl⟩
  · exact absurd rfl h
  · rw [List.concat_eq_append, shut_snoc]; simp
/-- A line begins where nothing has been read, or behind a line's end. -/
theorem Rm.begins {t : List UInt8} {i : Nat} {size : Int} {b : List UInt8} {L : List (List UInt8)} {cur : List UInt8} {M : List (List UInt8)} (h : Rm t i size b L cur M) (hi : i ≠ 0) : (∃ x, t[i - 1]? = some x ∧ (x = 10 ↔ cur = [])) := by
  have hl : (shut L ++ cur)[i - 1]? = (shut L ++ cur).getLast? := by rw [List.getLast?_eq_getElem?, h.at_]
  have ht : t[i - 1]? = (shut L ++ cur)[i - 1]? := by
    conv => lhs; rw [h.eq]
    rw [List.getElem?_append_left (by rw [h.at_]; omega)]
  rw [ht, hl]
  rcases List.eq_nil_or_concat cur with hc | ⟨c', x, hc⟩
  · subst hc
    have hs : shut L ≠ [] := fun e => hi (by have := h.at_; simp [e] at this; omega)
    rw [List.append_nil, shut_last hs]
    exact ⟨10, rfl, by simp⟩
  · rw [List.concat_eq_append] at hc
    have hx : x ≠ 10 := h.c10 x (by rw [hc]; simp)
    refine ⟨x, by rw [hc]; simp, ?_⟩
    rw [hc]; simp [hx]
/-- Behind what is put ahead of a line. -/
structure Rn (t : List UInt8) (i : Nat) (size : Int) (b : List UInt8) (L : List (List UInt8)) (cur : List UInt8) (M : List (List UInt8)) : Prop where
  le : i ≤ t.length
  eq : t = shut L ++ cur ++ t.drop i
  at_ : (shut L ++ cur).length = i
  L10 : ∀ m ∈ L, ∀ x ∈ m, x ≠ 10
  c10 : ∀ x ∈ cur, x ≠ 10
  b_eq : b = shut M ++ cur
  M10 : ∀ m ∈ M, ∀ x ∈ m, x ≠ 10
  says_eq : says M = says L
  size_eq : (cur = [] → i < t.length → size = 0) ∧ (cur ≠ [] → size = cur.length)
  len : b.length ≤ 17 * i + 29
theorem Rm.ahead {t : List UInt8} {i : Nat} {size : Int} {b : List UInt8} {L : List (List UInt8)} {cur : List UInt8} {M : List (List UInt8)} (h : Rm t i size b L cur M) (hc : cur = []) (k : Nat) : ∃ M', Rn t i 0 (b ++ lineK k) L cur M' := by
  obtain ⟨Q, h1, h2, h3⟩ := quiet_k k
  refine ⟨M ++ Q, h.le, h.eq, h.at_, h.L10, h.c10, ?_, fun m hm => ?_, (h3 M).trans h.says_eq, ⟨fun _ _ => rfl, fun hn => absurd hc hn⟩, ?_⟩
  · rw [h.b_eq, h1, hc]; simp [shut]
  · rcases List.mem_append.1 hm with hm | hm
    · exact h.M10 m hm
    · exact h2 m hm
  · have := h.len; have := lineK_len k
    rw [List.length_append]; omega
theorem Rm.stays {t : List UInt8} {i : Nat} {size : Int} {b : List UInt8} {L : List (List UInt8)} {cur : List UInt8} {M : List (List UInt8)} (h : Rm t i size b L cur M) (hc : cur ≠ [] ∨ i = t.length) : Rn t i size b L cur M :=
  ⟨h.le, h.eq, h.at_, h.L10, h.c10, h.b_eq, h.M10, h.says_eq, ⟨fun e hi => by rcases hc with hc | hc; exact absurd e hc; omega, h.size_eq⟩, by have := h.len; omega⟩
/-- Every line of a file that can be read can be read. -/
theorem says_mem : ∀ {ls : List (List UInt8)} {xs : List Said}, says ls = some xs → ∀ l ∈ ls, ∃ o, lineS l = .ok o
  | [], _, _, l, hl => by cases hl
  | s :: ls, xs, h, l, hl => by
    rw [says_cons] at h
    cases hs : lineS s with
    | error e => rw [hs] at h; cases h
    | ok o =>
      rw [hs] at h
      rcases List.mem_cons.1 hl with rfl | hl
      · exact ⟨o, hs⟩
      · cases o with
        | none => exact says_mem h l hl
        | some x =>
          simp only at h
          cases h2 : says ls with
          | none => rw [h2] at h; cases h
          | some ys => exact says_mem h2 l hl
theorem line_len_ok {l : List UInt8} {o : Option Said} (h : lineS l = .ok o) : l.length ≤ 1024 := by
  unfold lineS at h
  split at h
  · cases h
  · omega
/-- A line's end, with what is put there. -/
theorem end_same {cur e : List UInt8} (he : after e) (hl : (cur ++ e).length ≤ 1024) {o : Option Said} (h : lineS cur = .ok o) (A B : List (List UInt8)) (hs : says A = says B) : says (A ++ [cur ++ e]) = says (B ++ [cur]) := by
  rw [says_app, says_app, hs, says_cons, says_cons, line_after he hl h, h]
def endZ (size : Int) (k : Nat) : List UInt8 := if size + 8 < 1024 then endK k else []
theorem endZ_after (size : Int) (k : Nat) : after (endZ size k) := by
  unfold endZ; split
  · exact endK_after k
  · exact .inl rfl
theorem endZ_len (size : Int) (k : Nat) : (endZ size k).length ≤ 4 := by
  unfold endZ; split
  · exact endK_len k
  · exact Nat.zero_le _
theorem endZ_10 (size : Int) (k : Nat) : ∀ x ∈ endZ size k, x ≠ 10 := by
  unfold endZ; split
  · exact endK_10 k
  · intro x hx; cases hx
theorem Rn.short {t : List UInt8} {i : Nat} {size : Int} {b : List UInt8} {L : List (List UInt8)} {cur : List UInt8} {M : List (List UInt8)} (h : Rn t i size b L cur M) (k : Nat) (hc : cur.length ≤ 1024) : (cur ++ endZ size k).length ≤ 1024 := by
  rw [List.length_append]
  by_cases hn : cur = []
  · have := endZ_len size k; subst hn; simp; omega
  · have hz := h.size_eq.2 hn
    unfold endZ
    split
    · have := endK_len k; omega
    · simp; omega
theorem drop_step {t : List UInt8} {i : Nat} {c : UInt8} (hc : t[i]? = some c) : t.drop i = c :: t.drop (i + 1) := by
  obtain ⟨h, rfl⟩ := List.getElem?_eq_some_iff.1 hc
  exact List.drop_eq_getElem_cons h
theorem Rn.newline {t : List UInt8} {i : Nat} {size : Int} {b : List UInt8} {L : List (List UInt8)} {cur : List UInt8} {M : List (List UInt8)} (h : Rn t i size b L cur M) (k : Nat) (hc : t[i]? = some 10) {xs : List Said} (hx : says (cutAt 10 t) = some xs) (z : Int) :
    Rm t (i + 1) z (b ++ endZ size k ++ [10]) (L ++ [cur]) [] (M ++ [cur ++ endZ size k]) := by
  have hd := drop_step hc
  have hcur : cur ∈ cutAt 10 t := by
    have e : t = shut L ++ (cur ++ 10 :: t.drop (i + 1)) := by rw [← hd, ← List.append_assoc]; exact h.eq
    rw [e, cut_shut L _ h.L10, cutAt_app 10 _ _ h.c10]
    simp
  obtain ⟨o, ho⟩ := says_mem hx cur hcur
  have hi := (List.getElem?_eq_some_iff.1 hc).1
  refine ⟨hi, ?_, ?_, fun m hm => ?_, fun x hx => (by cases hx), ?_, fun m hm => ?_, ?_, fun hn => absurd rfl hn, ?_⟩
  · rw [shut_snoc, List.append_nil]
    have := h.eq
    rw [hd] at this
    rw [List.append_assoc _ [10]]
    exact this
  · rw [shut_snoc, List.append_nil, List.length_append, h.at_]; rfl
  · rcases List.mem_append.1 hm with hm | hm
    · exact h.L10 m hm
    · obtain rfl := List.mem_singleton.1 hm
      exact h.c10
  · rw [shut_snoc, h.b_eq]; simp
  · rcases List.mem_append.1 hm with hm | hm
    · exact h.M10 m hm
    · obtain rfl := List.mem_singleton.1 hm
      intro x hx
      rcases List.mem_append.1 hx with hx | hx
      · exact h.c10 x hx
      · exact endZ_10 size k x hx
  · exact end_same (endZ_after size k) (h.short k (line_len_ok ho)) ho M L h.says_eq
  · have := h.len; have := endZ_len size k
    simp only [List.length_append, List.length_singleton]; omega
theorem Rn.byte {t : List UInt8} {i : Nat} {size : Int} {b : List UInt8} {L : List (List UInt8)} {cur : List UInt8} {M : List (List UInt8)} (h : Rn t i size b L cur M) {c : UInt8} (hc : t[i]? = some c) (h10 : c ≠ 10) :
    Rm t (i + 1) (size + 1) (b ++ [c]) L (cur ++ [c]) M := by
  have hd := drop_step hc
  have hi := (List.getElem?_eq_some_iff.1 hc).1
  refine ⟨hi, ?_, ?_, h.L10, fun x hx => ?_, ?_, h.M10, h.says_eq, fun _ => ?_, ?_⟩
  · have := h.eq
    rw [hd] at this
    simpa using this
  · have := h.at_
    simp only [List.length_append, List.length_singleton] at this ⊢; omega
  · rcases List.mem_append.1 hx with hx | hx
    · exact h.c10 x hx
    · obtain rfl := List.mem_singleton.1 hx
      exact h10
  · rw [h.b_eq]; simp
  · by_cases hn : cur = []
    · rw [h.size_eq.1 hn hi]; subst hn; simp
    · rw [h.size_eq.2 hn]; simp
  · have := h.len
    simp only [List.length_append, List.length_singleton]; omega
theorem Rn.final {t : List UInt8} {size : Int} {b : List UInt8} {L : List (List UInt8)} {cur : List UInt8} {M : List (List UInt8)} (h : Rn t t.length size b L cur M) (k : Nat) {xs : List Said} (hx : says (cutAt 10 t) = some xs) :
    says (cutAt 10 (b ++ endZ size k)) = some xs := by
  have e : t = shut L ++ cur := by
    have := h.eq
    rwa [List.drop_eq_nil_of_le (Nat.le_refl _), List.append_nil] at this
  have hc : cutAt 10 t = L ++ [cur] := by rw [e, cut_shut L _ h.L10, cutAt_all 10 _ h.c10]
  have h2 : cutAt 10 (b ++ endZ size k) = M ++ [cur ++ endZ size k] := by
    rw [h.b_eq, List.append_assoc, cut_shut M _ h.M10, cutAt_all 10 _ (fun x hx => by
      rcases List.mem_append.1 hx with hx | hx
      · exact h.c10 x hx
      · exact endZ_10 size k x hx)]
  obtain ⟨o, ho⟩ := says_mem hx cur (by rw [hc]; simp)
  rw [h2, end_same (endZ_after size k) (h.short k (line_len_ok ho)) ho M L h.says_eq, ← hc, hx]
/-- What a file that can be read says, it says with lines and ends put in. -/
theorem parse_dressed {t u : List UInt8} {out : List Said} (h : parseT t = .ok out) (hu : u.length ≤ 65536) (he : ∀ xs, says (cutAt 10 t) = some xs → says (cutAt 10 u) = some xs) : parseT u = .ok out := by
  unfold parseT at h ⊢
  split at h
  · cases h
  rw [if_neg (by omega)]
  cases hp : parseS 0 (cutAt 10 t) [] with
  | error e => rw [hp] at h; cases h
  | ok r =>
    rw [hp] at h
    obtain ⟨xs, h1, hr⟩ := (parseS_says _ _ _ _).1 hp
    have h2 := (parseS_says _ 0 [] _).2 ⟨xs, he xs h1, hr⟩
    rw [h2]
    exact h
theorem parse_says {t : List UInt8} {out : List Said} (h : parseT t = .ok out) : ∃ xs, says (cutAt 10 t) = some xs := by
  unfold parseT at h
  split at h
  · cases h
  cases hp : parseS 0 (cutAt 10 t) [] with
  | error e => rw [hp] at h; cases h
  | ok r =>
    obtain ⟨xs, h1, _⟩ := (parseS_says _ _ _ _).1 hp
    exact ⟨xs, h1⟩
end Go.Proofs.Sr
