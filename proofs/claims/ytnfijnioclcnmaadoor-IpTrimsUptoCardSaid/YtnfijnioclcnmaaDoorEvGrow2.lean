/- Appending where a slice grows, or may grow: it agrees with the world. Holds for every program. -/
import Derived.Test.YtnfijnioclcnmaaDoorEvGrow
namespace Go.Ev
open Go
section
variable {P : Program}

/-- The old row, given up for a new name: the stores lie behind what it holds. -/
theorem in_place {κ : K} {G : Nat → Option AObj} {w : World} (hrel : Rel P κ G w) {id j : Nat} {b : BI} {c0 : List Value} {e : TypeId} {lo hi : Nat} {st : Bool} (hG : G id = some (.cells c0 e lo hi false st)) (hb : κ id = some b)
    (hGj : G j = none) (hκj : κ j = none) {off size n m : Nat} {old new new' : List Value} (hsz : b.sz = size) (hold : old.length = n * size) (hnew : new.length = m * size) (hnn : VL κ new new')
    (hone : ∀ v ∈ new, oneCell v = true) {p : Nat} (hp : b.sh ≤ p) (hpo : p = b.sh + off ∨ n = 0) (hc0 : ∀ (i : Nat) v, old[i]? = some v → c0[off + i]? = some v) (hfitp : p + (n + m) * size ≤ b.tot)
    (hfz : hi ≤ lo ∨ (off ≤ lo ∧ hi ≤ off + n * size ∧ n ≠ 0)) (hlh : lo ≤ hi) :
    ∃ w', (storeCells (⟨b.blk, p + n * size, none⟩ : Addr) new' 0).run P w = .ok () w' ∧
      Rel P (fun i => if i = j then some ⟨b.blk, p, b.tot, false, b.sz⟩ else κ i) (fun i => if i = j then some (.cells (old ++ new) e (lo - off) (hi - off) false st) else if i = id then none else G i) w' ∧
      (∀ k, k ≠ b.blk → w'.heap[k]? = w.heap[k]?) ∧ Same w w' := by
  obtain ⟨b', hb', ho1, ho2, ho3, c', fz, ⟨e', hc, het⟩, hcs, hcells, hf0⟩ := hrel.at_ id _ hG
  rw [het hlh] at hc
  have hf := hf0 hlh
  obtain rfl : b' = b := Option.some.inj (hb'.symm.trans hb)
  simp only [Bool.false_eq_true, if_false] at ho2
  have hlen' := hnn.length
  have hmul : (n + m) * size = n * size + m * size := Nat.add_mul ..
  have hone' : ∀ v ∈ new', oneCell v = true := by
    intro v hv
    obtain ⟨i, hi, rfl⟩ := List.getElem_of_mem hv
    rcases hnn.get i with ⟨_, h2⟩ | ⟨u, u', h1, h2, h3⟩
    · rw [List.getElem?_eq_getElem hi] at h2; cases h2
    · rw [List.getElem?_eq_getElem hi] at h2; cases h2
      have := oneCell_of h3 (hone u (List.mem_of_getElem? h1))
      cases hq : new'[i] <;> first | rfl | (rw [hq] at this; first | exact absurd rfl (this _).1 | exact absurd rfl (this _).2)
  have hnf : ∀ k, p + n * size ≤ k → k < b'.tot → ¬ (fz.1 ≤ k ∧ k < fz.2) := by
    intro k hk1 hk2 ⟨q1, q2⟩
    rcases hf with hf | ⟨_, hf⟩ | ⟨_, hlt, hf1, hf2⟩
    · omega
    · rw [hf] at q1; simp only at q1; omega
    · rcases hfz with hh | ⟨h1, h2, h3⟩
      · omega
      · rcases hpo with hpo | hpo
        · omega
        · exact absurd hpo h3
  obtain ⟨w', cur', hrun, h1, h2, h3, h4, h5⟩ := run_stores (P := P) b'.blk e fz ⟨b'.blk, p + n * size, none⟩ rfl rfl new' 0 w c' hc
    (fun k hk => ⟨by simp only [Nat.add_zero]; omega, by simp only [Nat.add_zero]; exact hnf _ (by omega) (by omega)⟩) hone'
  refine ⟨w', hrun, ?_, h4, h5⟩
  have hle : K.le κ (fun i => if i = j then some ⟨b'.blk, p, b'.tot, false, b'.sz⟩ else κ i) := fun i y hy => by
    by_cases hi : i = j
    · subst hi; rw [hκj] at hy; cases hy
    · simp only [hi, if_false]; exact hy
  have hjid : j ≠ id := fun e => by subst e; rw [hGj] at hG; cases hG
  refine ⟨fun i o hi => ?_, fun i i' o o' x x' gi gi' hx hx' hblk hvw => ?_, fun i x hx => ?_⟩
  · by_cases hij : i = j
    · subst hij
      simp only [if_true, Option.some.injEq] at hi
      subst hi
      refine ⟨_, if_pos rfl, rfl, by simpa using ho2, ?_, cur', fz, ⟨_, h1, fun _ => rfl⟩, by rw [h2]; exact hcs, fun k v hv => ?_, fun _ => ?_⟩
      · simp only [List.length_append]; omega
      · simp only []
        rcases Nat.lt_or_ge k (n * size) with hk | hk
        · rw [List.getElem?_append_left (by omega)] at hv
          have hn0 : n ≠ 0 := fun e => by subst e; simp at hk
          have hp' : p = b'.sh + off := hpo.resolve_right hn0
          obtain ⟨u, hu1, hu2⟩ := hcells (off + k) v (hc0 k v hv)
          refine ⟨u, ?_, fun ho => (hu2 ho).mono hle⟩
          rw [(h3 (p + k)).2 (by simp only [Nat.add_zero]; omega), ← hu1]
          congr 1; omega
        · rw [List.getElem?_append_right (by omega), hold] at hv
          rcases hnn.get (k - n * size) with ⟨g1, _⟩ | ⟨u, u', g1, g2, g3⟩
          · rw [g1] at hv; cases hv
          · rw [g1] at hv; cases hv
            refine ⟨u', ?_, fun _ => g3.mono hle⟩
            have hkl : k - n * size < new'.length := by
              rcases Nat.lt_or_ge (k - n * size) new'.length with q | q
              · exact q
              · rw [List.getElem?_eq_none q] at g2; cases g2
            rw [(h3 (p + k)).1 (by simp only [Nat.add_zero]; omega), ← g2]
            congr 1; simp only [Nat.add_zero]; omega
      · simp only []
        rcases hf with hf | ⟨hf1, hf2⟩ | ⟨hf0, hlt, hf1, hf2⟩
        · exact .inl hf
        · exact .inr (.inl ⟨hf1, hf2⟩)
        · rcases hfz with hh | ⟨q1, q2, q3⟩
          · omega
          · have hp' : p = b'.sh + off := hpo.resolve_right q3
            exact .inr (.inr ⟨hf0, by omega, by omega, by omega⟩)
    · simp only [hij, if_false] at hi
      by_cases hid : i = id
      · simp only [hid, if_true] at hi; cases hi
      · simp only [hid, if_false] at hi
        obtain ⟨x, hx, hin⟩ := hrel.at_ i o hi
        refine ⟨x, by simp only [hij, if_false]; exact hx, (hin.mono hle).heap (h4 _ ?_)⟩
        intro heq
        exact hid (hrel.one i id _ _ x b' hi hG hx hb heq (by rw [view_typed hlh, Bool.and_false]))
  · have live : ∀ i o x, (if i = j then some (AObj.cells (old ++ new) e (lo - off) (hi - off) false st) else if i = id then none else G i) = some o → i ≠ j → (if i = j then some (⟨b'.blk, p, b'.tot, false, b'.sz⟩ : BI) else κ i) = some x → G i = some o ∧ κ i = some x ∧ i ≠ id := by
      intro i o x gi hij hx
      rw [if_neg hij] at gi hx
      by_cases hid : i = id
      · rw [if_pos hid] at gi; cases gi
      · rw [if_neg hid] at gi; exact ⟨gi, hx, hid⟩
    by_cases hij : i = j <;> by_cases hij' : i' = j
    · rw [hij, hij']
    · obtain ⟨g1, g2, g3⟩ := live i' o' x' gi' hij' hx'
      simp only [hij, if_true, Option.some.injEq] at hx
      subst hx
      exact absurd (hrel.one i' id _ _ x' b' g1 hG g2 hb hblk.symm (by rw [view_typed hlh, Bool.and_false])) g3
    · obtain ⟨g1, g2, g3⟩ := live i o x gi hij hx
      simp only [hij', if_true, Option.some.injEq] at hx'
      subst hx'
      exact absurd (hrel.one i id _ _ x b' g1 hG g2 hb hblk (by rw [view_typed hlh, Bool.and_false])) g3
    · obtain ⟨g1, g2, _⟩ := live i o x gi hij hx
      obtain ⟨g3, g4, _⟩ := live i' o' x' gi' hij' hx'
      exact hrel.one i i' o o' x x' g1 g3 g2 g4 hblk hvw
  · have := h5.size
    by_cases hij : i = j
    · simp only [hij, if_true, Option.some.injEq] at hx
      subst hx
      have := hrel.old id b' hb
      simp only; omega
    · simp only [hij, if_false] at hx
      have := hrel.old i x hx
      omega

theorem zeroCells_eq {z : Value} {size : Nat} (h : z.cells.size = size) (n : Nat) : (Builtin.zeroCells z.cells n).size = n * size := by rw [cells_rep, h]
theorem loaded (a : Addr) : ∀ (k i : Nat) (acc : Array Value) (h : AH) (r : Array Value) (h' : AH), arun P (loadCellsFrom a i k acc) h = some (r, h') → a.spot = none →
    ∃ l, r.toList = acc.toList ++ l ∧ l.length = k ∧ (0 < k → ∃ c e lo hi ex st, h.get a.block = some (.cells c e lo hi ex st) ∧ ∀ j v, l[j]? = some v → c[a.off + i + j]? = some v)
  | 0, i, acc, h, r, h', e, hs => by
    simp only [loadCellsFrom, pure, arun, Option.some.injEq, Prod.mk.injEq] at e
    exact ⟨[], by rw [← e.1]; simp, rfl, fun hk => by omega⟩
  | k + 1, i, acc, h, r, h', e, hs => by
    have e' : arun P ((load (a.add i)).bind fun v => loadCellsFrom a (i + 1) k (acc.push v)) h = some (r, h') := e
    rw [arun_bind] at e'
    cases hl : arun P (load (a.add i)) h with
    | none => rw [hl] at e'; cases e'
    | some y =>
      obtain ⟨v, h1⟩ := y
      rw [hl] at e'
      simp only [Option.bind_some] at e'
      obtain ⟨l, g1, g2, g3⟩ := loaded a k (i + 1) _ _ _ _ e' hs
      have hadd := addr_add_off a i hs
      have hh := hl
      rw [hadd] at hh
      simp only [load, arun] at hh
      split at hh
      · rename_i c el lo hi ex st hg
        split at hh
        · rename_i u hu
          cases ho : oneCell u with
          | false => rw [ho] at hh; cases hh
          | true =>
            rw [ho] at hh
            simp only [cond_true, Option.some.injEq, Prod.mk.injEq] at hh
            obtain ⟨rfl, rfl⟩ := hh
            rw [nth_eq] at hu
            refine ⟨u :: l, by rw [g1]; simp, by simp [g2], fun _ => ⟨c, el, lo, hi, ex, st, hg, fun j v hv => ?_⟩⟩
            cases j with
            | zero => simp only [List.getElem?_cons_zero, Option.some.injEq] at hv; subst hv; exact hu
            | succ j =>
              have hv' : l[j]? = some v := by simpa using hv
              have hk : 0 < k := by
                rcases Nat.eq_zero_or_pos k with q | q
                · subst q; rw [List.length_eq_zero_iff] at g2; subst g2; simp at hv'
                · exact q
              obtain ⟨c2, e2, lo2, hi2, ex2, st2, q1, q2⟩ := g3 hk
              have : (h.rdBit a.block).get a.block = h.get a.block := rfl
              simp only [this, hg, Option.some.injEq, AObj.cells.injEq] at q1
              have := q2 j v hv'
              rw [← q1.1] at this
              rw [← this]; congr 1; omega
        · cases hh
      · cases hh

set_option maxHeartbeats 1000000 in
theorem growA_sound {t xt ty : TypeId} {s x : Value} {h : AH} {v : Value} {h' : AH} (e : growA P t s x h = some (v, h')) (wf : WF h) {d : TypeDesc} (hxt : P.underlying xt = some d) (hd : ∀ k, d ≠ .int k)
    {κ : K} {G : Nat → Option AObj} {w : World} (hrel : Rel P κ G w) (hag : Agree h h' G) (hfs : Fresh h h' κ G) {s' x' : Value} (hs : VR κ s s') (hx : VR κ x x') : AppendGives P κ G h h' w t xt ty s' x' v := by
  have hextA := growA_ext e wf
  unfold growA at e
  split at e
  · rename_i base n c el hun
    split at e
    · cases e
    rename_i i hinf
    split at e
    · cases e
    rename_i z hz
    split at e
    · cases e
    rename_i m hl0 hlen
    split at e
    · cases e
    rename_i old h1 hold
    split at e
    · cases e
    rename_i new h2 hnew
    cases hc : (Nat.blt c (n + m) && Nat.ble ((n + m) * i.bytes) 140737488355328 && Nat.ble (n + m) 140737488355328 && small h2.n && Nat.beq z.cells.size i.size && Nat.beq old.size (n * i.size) && Nat.beq new.size (m * i.size) && new.toList.all oneCell && Nat.beq (P.cellsOf el) i.size) with
    | false => rw [hc] at e; cases e
    | true =>
      rw [hc] at e
      simp only [cond_true] at e
      simp only [Bool.and_eq_true, beq_eq, decide_eq_true_eq, Nat.ble_eq, List.all_eq_true] at hc
      obtain ⟨⟨⟨⟨⟨⟨⟨⟨c1, c2⟩, c3⟩, hsm⟩, c5⟩, c6⟩, c7⟩, c8⟩, c9⟩ := hc
      have c1' : c < n + m := Nat.blt_eq ▸ c1
      have x1 := arun_ext P _ _ _ _ hold wf
      have x2 := arun_ext P _ _ _ _ hnew x1.2
      have hlo1 := lo_firstCells (P := P) _ _ _ _ _ _ hold
      have hlo2 := lo_firstCells (P := P) _ _ _ _ _ _ hnew
      have hlo : h2.t = h.t ∧ h2.n = h.n ∧ h2.wr = h.wr := ⟨hlo2.1.trans hlo1.1, hlo2.2.1.trans hlo1.2.1, hlo2.2.2.trans hlo1.2.2⟩
      obtain ⟨_, hl2⟩ := lenOf_run hx hlen w
      have hmul : (n + m) * i.size = n * i.size + m * i.size := Nat.add_mul ..
      -- what the rest of the evaluation adds
      have rest : Ext h2 h' ∧ h'.n = h2.n + 1 ∧ v = .slice (some ⟨h2.n, 0, none⟩) (n + m) (n + m) ∧
          ((∃ st lo hi, (base = none ∨ ∃ a, base = some a ∧ h'.touched a.block = true ∧ ∃ c0 e0 lo' hi' st', h2.get a.block = some (.cells c0 e0 lo' hi' true st')) ∧ lo = 0 ∧ hi = 0 ∧ st = false ∧ ∀ j, h'.get j = if j = h2.n then some (.cells (old.toList ++ new.toList) el lo hi false st) else h2.get j) ∧ h'.wr = h2.wr ∨
           (∃ a c0 lo hi st, base = some a ∧ h2.get a.block = some (.cells c0 el lo hi false st) ∧ small a.block = true ∧ (hi ≤ lo ∨ (a.off ≤ lo ∧ hi ≤ a.off + n * i.size ∧ n ≠ 0)) ∧ lo ≤ hi ∧
              h' = (h2.kill a.block).push (.cells (old.toList ++ new.toList) el (lo - a.off) (hi - a.off) false st))) := by
        unfold growIn at e
        split at e
        · cases e
          exact ⟨ext_push x2.2 hsm _, rfl, rfl, .inl ⟨⟨false, 0, 0, .inl rfl, rfl, rfl, rfl, fun j => get_push hsm _ j⟩, rfl⟩⟩
        · rename_i a
          split at e
          · rename_i c0 e0 lo hi ex st hg
            cases ex with
            | true =>
              cases e
              refine ⟨(ext_rdBit h2 _).trans (ext_push (wf_rdBit x2.2 _) hsm _), rfl, rfl, .inl ⟨⟨false, 0, 0, .inr ⟨a, rfl, ?_, c0, e0, lo, hi, st, hg⟩, rfl, rfl, rfl, fun j => get_push (h := h2.rdBit a.block) hsm _ j⟩, rfl⟩⟩
              show ((h2.rdBit a.block).rd.testBit a.block || _) = true
              rw [rd_rdBit]; simp
            | false =>
              simp only [cond_false] at e
              cases hq : (Nat.ble lo hi && Nat.beq e0 el && Nat.beq (P.cellsOf el) i.size && small a.block && (Nat.ble hi lo || (Nat.ble a.off lo && Nat.ble hi (a.off + n * i.size) && !(Nat.beq n 0)))) with
              | false => rw [hq] at e; cases e
              | true =>
                rw [hq] at e
                cases e
                simp only [Bool.and_eq_true, Bool.or_eq_true, beq_eq, decide_eq_true_eq, Nat.ble_eq, Bool.not_eq_true', decide_eq_false_iff_not] at hq
                obtain ⟨⟨⟨⟨q0, q1⟩, q2⟩, q3⟩, q4⟩ := hq
                subst q1
                refine ⟨(ext_kill q3).trans (ext_push (wf_kill x2.2 q3 (x2.2.dom _ _ hg)) hsm _), rfl, rfl, .inr ⟨a, c0, lo, hi, st, rfl, hg, q3, ?_, q0, rfl⟩⟩
                rcases q4 with q4 | ⟨⟨q4, q5⟩, q6⟩
                · exact .inl q4
                · exact .inr ⟨q4, q5, q6⟩
          · cases e
      obtain ⟨x3, hn', hv, hrest⟩ := rest
      subst hv
      have hag2 := hag.left x3
      have hmr : merge h h2 G = G := merge_read wf hlo hag2
      have hag1 : Agree h h1 G := hag2.left x2.1
      have hmr1 : merge h h1 G = G := merge_read wf hlo1 hag1
      have hag12 : Agree h1 h2 G := by have := hag2.right x1.1; rwa [hmr1] at this
      have hnone := hfs h.n (Nat.le_refl _) (by have := hlo.2.1; omega)
      have loads : ∀ W : World, Rel P κ G W → ∃ old' new', (Builtin.firstCells i.size n s').run P W = .ok old' W ∧ AR κ old old' ∧ (Builtin.firstCells i.size m x').run P W = .ok new' W ∧ AR κ new new' ∧ (m = 0 → new' = #[]) := by
        intro W hW
        obtain ⟨old', r1, r2, _⟩ := read_sim (sr_first i.size n hs (fun a k c e => by cases e; rfl)) (lo_firstCells _ _ _) (ro_firstCells _ _ _) hold wf hW hag1
        obtain ⟨new', r3, r4, r5⟩ := read_sim (sr_first i.size m hx hl2) (lo_firstCells _ _ _) (ro_firstCells _ _ _) hnew x1.2 hW hag12
        exact ⟨old', new', r1, r2, r3, r4, fun e => (r5 e).2⟩
      have hlen2 := (lenOf_run hx hlen w).1
      -- the slice grows
      have more : ∀ (base' : Option Addr) (c' : Nat) (G1 : Nat → Option AObj) (lo hi : Nat) (st : Bool), s' = .slice base' n c' → c' < n + m → (∀ id o, G1 id = some o → G id = some o) →
          merge h h' G = (fun j => if j = h.n then some (.cells (old.toList ++ new.toList) el lo hi false st) else G1 j) → AppendGives P κ G h h' w t xt ty s' x' (.slice (some ⟨h2.n, 0, none⟩) (n + m) (n + m)) := by
        intro base' c' G1 lo hi st hs' hlt hsub hmg
        obtain ⟨old', new', r1, r2, r3, r4, _⟩ := loads w.drew (rel_drew hrel)
        have hge : n + m ≤ grownCap w (n + m) c' el := by simp [grownCap, Question.cut]
        rw [hs'] at r1
        have hrun := run_append_more w t xt ty el i z d hun hinf hz hxt hd base' n c' m x' old' new' hlen2 r1 r3 hlt c2 c3
        have hcs : VL κ (old.toList ++ new.toList) (old'.toList ++ new'.toList) := VL.append r2 r4
        have hG1 : G1 h.n = none := by
          cases hq : G1 h.n with
          | none => rfl
          | some o => have := hsub _ _ hq; rw [hnone.1] at this; cases this
        have hR := fresh_row (P := P) (hrel.sub hsub) (j := h.n) hG1 hnone.2 hcs (Builtin.zeroCells z.cells (grownCap w (n + m) c' el - (n + m))) c9 lo hi st
        refine ⟨fun q => if q = h.n then some ⟨w.heap.size, 0, (old.toList ++ new.toList).length + (Builtin.zeroCells z.cells (grownCap w (n + m) c' el - (n + m))).size, false, i.size⟩ else κ q, _, _, by rw [hs']; exact hrun, ?_, ?_, ?_⟩
        · refine .slice ⟨rfl, rfl, _, if_pos hlo.2.1, rfl, .inr ⟨rfl, ?_, Nat.le_refl _, hge, .inl rfl⟩⟩
          simp only [List.length_append, Array.length_toList, c6, c7]
          rw [zeroCells_eq c5, Nat.zero_add, ← hmul, ← Nat.add_mul]
          exact Nat.mul_le_mul_right _ (by omega)
        · rw [hmg]
          have e1 : (old' ++ new' ++ Builtin.zeroCells z.cells (grownCap w (n + m) c' el - (n + m))) = (old'.toList ++ new'.toList).toArray ++ Builtin.zeroCells z.cells (grownCap w (n + m) c' el - (n + m)) := by
            apply Array.ext'
            simp [List.append_assoc]
          rw [e1]; exact hR
        · refine ⟨fun q y hy => ?_, fun q hq => if_neg ?_, fun q y hy => ?_, fun k hk _ => heap_push_old (w := w) hk, ⟨rfl, rfl, rfl, by rw [World.size_alloc, World.size_drew]; exact Nat.le_succ _⟩⟩
          · by_cases hqn : q = h.n
            · subst hqn; rw [hnone.2] at hy; cases hy
            · simp only [hqn, if_false]; exact hy
          · intro hqn; exact hq ⟨by omega, by have := hlo.2.1; omega⟩
          · by_cases hqn : q = h.n
            · simp only [hqn, if_true, Option.some.injEq] at hy; subst hy; exact .inr (.inl (Nat.le_refl _))
            · simp only [hqn, if_false] at hy; exact .inl hy
      rcases hrest with ⟨⟨st, lo, hi, hb, rfl, rfl, rfl, hget⟩, hwr⟩ | ⟨a, c0, lo, hi, st, rfl, hg, hsa, hfz, hlh, rfl⟩
      · -- no old row is given up
        have hmg : merge h h' G = fun j => if j = h.n then some (.cells (old.toList ++ new.toList) el 0 0 false false) else G j := by
          funext j
          unfold merge
          rw [hget, hlo.2.1, hwr, hlo.2.2]
          by_cases hj : j = h.n
          · subst hj; rw [if_pos (.inl ⟨Nat.le_refl _, by have := hlo.2.1; omega⟩), if_pos rfl, if_pos rfl]
          · rw [if_neg hj, if_neg hj]
            split
            · rename_i hx'
              rcases hx' with hx' | hx'
              · have := hlo.2.1; omega
              · have := hag2 j (wf.wr j hx') (by simp [AH.touched, hlo.2.2, hx'])
                rw [this]; simp [AH.get, hlo.1]
            · rfl
        cases hs with
        | sliceNil _ _ => exact more none c G 0 0 false rfl c1' (fun _ _ e => e) hmg
        | slice hsl =>
          rename_i a a' c'
          have hcc : c' = c := by
            obtain ⟨_, _, b, hb0, hblk, hcase⟩ := hsl
            rcases hb with hb | ⟨a0, ha0, htc, c0, e0, lo', hi', st', hg⟩
            · cases hb
            · cases ha0
              have hlt : a.block < h.n := by rw [← hlo.2.1]; exact x2.2.dom _ _ hg
              have hGa : G a.block = some (.cells c0 e0 lo' hi' true st') := by
                rw [hag _ hlt htc, ← hg]; simp [AH.get, hlo.1]
              obtain ⟨b', hb', hin⟩ := hrel.at_ _ _ hGa
              rw [hb0] at hb'; cases hb'
              rcases hcase with ⟨_, e⟩ | ⟨e, _⟩
              · exact e
              · rw [hin.1] at e; cases e
          exact more (some a') c' G 0 0 false rfl (by omega) (fun _ _ e => e) hmg
      · -- the old row may be given up
        have hlt : a.block < h.n := by rw [← hlo.2.1]; exact x2.2.dom _ _ hg
        have htc : ((h2.kill a.block).push (.cells (old.toList ++ new.toList) el (lo - a.off) (hi - a.off) false st)).touched a.block = true := by
          show (_ || (h2.kill a.block).wr.testBit a.block) = true
          rw [wr_kill]; simp
        have hGa : G a.block = some (.cells c0 el lo hi false st) := by
          rw [hag _ hlt htc, ← hg]; simp [AH.get, hlo.1]
        have hmg : merge h ((h2.kill a.block).push (.cells (old.toList ++ new.toList) el (lo - a.off) (hi - a.off) false st)) G =
            fun j => if j = h.n then some (.cells (old.toList ++ new.toList) el (lo - a.off) (hi - a.off) false st) else if j = a.block then none else G j := by
          have hwk := wf_kill x2.2 hsa (x2.2.dom _ _ hg)
          have xk : Ext h2 (h2.kill a.block) := ext_kill hsa
          have xp : Ext (h2.kill a.block) ((h2.kill a.block).push (.cells (old.toList ++ new.toList) el (lo - a.off) (hi - a.off) false st)) := ext_push hwk hsm _
          have hagk : Agree h2 ((h2.kill a.block).push (.cells (old.toList ++ new.toList) el (lo - a.off) (hi - a.off) false st)) G := by
            have := hag.right (x1.1.trans x2.1); rwa [hmr] at this
          have e1 := merge_merge (G := G) (x1.1.trans x2.1) (xk.trans xp)
          rw [hmr] at e1
          rw [← e1, ← merge_merge xk xp, merge_kill x2.2 (xk.trans xp) hagk hsa]
          have := merge_push (G := fun j => if j = a.block then none else G j) hwk xp (by
            have := hagk.right xk
            rwa [merge_kill x2.2 (xk.trans xp) hagk hsa] at this) hsm (.cells (old.toList ++ new.toList) el (lo - a.off) (hi - a.off) false st)
          rw [this]
          show (fun j => if j = h2.n then _ else _) = _
          rw [hlo.2.1]
        have hsub : ∀ id o, (if id = a.block then none else G id) = some o → G id = some o := fun id o e => by
          by_cases hid : id = a.block
          · rw [if_pos hid] at e; cases e
          · rw [if_neg hid] at e; exact e
        cases hs with
        | slice hsl =>
          rename_i a' c'
          by_cases hroom : n + m ≤ c'
          · obtain ⟨h1', h2', b, hb0, hblk, hcase⟩ := hsl
            obtain ⟨b', hb', hin⟩ := hrel.at_ _ _ hGa
            rw [hb0] at hb'; cases hb'
            obtain ⟨k1, k2, k3, k4, k5⟩ : b.ex = false ∧ a'.off + c' * b.sz ≤ b.tot ∧ b.sh ≤ a'.off ∧ c ≤ c' ∧ (a'.off = b.sh + a.off ∨ (n = 0 ∧ c = 0)) := by
              rcases hcase with ⟨_, e⟩ | e
              · omega
              · exact e
            have hbsz : b.sz = i.size := by
              have := hin.2.1
              simp only [Bool.false_eq_true, if_false] at this
              rw [this, c9]
            obtain ⟨old', new', r1, r2, r3, r4, _⟩ := loads w hrel
            have hfit := run_append_fit w t xt ty el i d hun hinf hxt hd (some a') n c' m x' new' hlen2 r3 hroom
            have hc0 : ∀ (q : Nat) v, old.toList[q]? = some v → c0[a.off + q]? = some v := by
              intro q v hv
              obtain ⟨l, g1, g2, g3⟩ := loaded a (n * i.size) 0 #[] h old h1 hold h1'
              have g1' : old.toList = l := by simpa using g1
              rw [g1'] at hv
              have hpos : 0 < n * i.size := by
                rcases Nat.eq_zero_or_pos (n * i.size) with q0 | q0
                · rw [q0] at g2; rw [List.length_eq_zero_iff] at g2; subst g2; simp at hv
                · exact q0
              obtain ⟨c2, e2, lo2, hi2, ex2, st2, q1, q2⟩ := g3 hpos
              have hgh : h.get a.block = some (.cells c0 el lo hi false st) := by rw [← hg]; simp [AH.get, hlo.1]
              rw [hgh] at q1
              simp only [Option.some.injEq, AObj.cells.injEq] at q1
              have := q2 q v hv
              rw [← q1.1] at this
              simpa using this
            have hmono : (n + m) * i.size ≤ c' * i.size := Nat.mul_le_mul_right _ hroom
            obtain ⟨w', p1, p2, p3, p4⟩ := in_place hrel hGa hb0 hnone.1 hnone.2 (off := a.off) (size := i.size) (n := n) (m := m) hbsz (old := old.toList) (by simpa using c6) (by simpa using c7) r4 c8 k3 (k5.imp id (fun e => e.1)) hc0
              (by rw [hbsz] at k2; omega) hfz hlh
            have haddr : a'.add (n * i.size) = ⟨b.blk, a'.off + n * i.size, none⟩ := by rw [addr_add_off a' _ h2', hblk]
            refine ⟨fun q => if q = h.n then some ⟨b.blk, a'.off, b.tot, false, b.sz⟩ else κ q, .slice (some a') (n + m) c', w', ?_, ?_, ?_, ?_⟩
            · rw [hfit]
              show (((storeCells (a'.add (n * i.size)) new'.toList).run P w).andThen _) = _
              rw [haddr, p1]; rfl
            · exact .slice ⟨rfl, h2', _, if_pos hlo.2.1, hblk, .inr ⟨rfl, k2, Nat.le_refl _, hroom, .inl rfl⟩⟩
            · rw [hmg]; exact p2
            · refine ⟨fun q y hy => ?_, fun q hq => if_neg ?_, fun q y hy => ?_, fun k hk hcond => p3 k ?_, p4⟩
              · by_cases hqn : q = h.n
                · subst hqn; rw [hnone.2] at hy; cases hy
                · simp only [hqn, if_false]; exact hy
              · intro hqn; exact hq ⟨by omega, by have := hlo.2.1; omega⟩
              · by_cases hqn : q = h.n
                · simp only [hqn, if_true, Option.some.injEq] at hy
                  subst hy
                  refine .inr (.inr ⟨a.block, b, hb0, rfl, ?_⟩)
                  show (h2.kill a.block).wr.testBit a.block = true
                  rw [wr_kill]; simp
                · simp only [hqn, if_false] at hy; exact .inl hy
              · intro hkb
                have := hcond a.block b hb0 hkb.symm
                have h3 : (h2.kill a.block).wr.testBit a.block = true := by rw [wr_kill]; simp
                rw [show ((h2.kill a.block).push (.cells (old.toList ++ new.toList) el (lo - a.off) (hi - a.off) false st)).wr = (h2.kill a.block).wr from rfl, h3] at this
                cases this
          · exact more (some a') c' _ _ _ _ rfl (by omega) hsub hmg
  · cases e
end
end Go.Ev
