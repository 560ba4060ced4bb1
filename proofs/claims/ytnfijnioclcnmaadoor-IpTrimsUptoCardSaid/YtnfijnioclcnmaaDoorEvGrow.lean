/- Appending where a slice grows, or may grow. Holds for every program. -/
import Derived.Test.YtnfijnioclcnmaaDoorEvSpec
namespace Go.Ev
open Go
section
variable {P : Program}

theorem one' (v : Value) : oneCell v = v.oneCell' := by cases v <;> rfl

/-- Stores one behind the other into a row: what becomes of it. -/
theorem run_stores (g : Nat) (e : TypeId) (fz : Nat × Nat) (a : Addr) (ha : a.block = g) (hs : a.spot = none) : ∀ (news : List Value) (i : Nat) (w : World) (cur : Array Value),
    w.heap[g]? = some (.cells cur e fz) → (∀ j, j < news.length → a.off + i + j < cur.size ∧ ¬ (fz.1 ≤ a.off + i + j ∧ a.off + i + j < fz.2)) → (∀ v ∈ news, oneCell v = true) →
    ∃ w' cur', (storeCells a news i).run P w = .ok () w' ∧ w'.heap[g]? = some (.cells cur' e fz) ∧ cur'.size = cur.size ∧
      (∀ k, (a.off + i ≤ k ∧ k < a.off + i + news.length → cur'[k]? = news[k - (a.off + i)]?) ∧ (¬ (a.off + i ≤ k ∧ k < a.off + i + news.length) → cur'[k]? = cur[k]?)) ∧
      (∀ k, k ≠ g → w'.heap[k]? = w.heap[k]?) ∧ Same w w'
  | [], i, w, cur, hg, _, _ => ⟨w, cur, rfl, hg, rfl, fun k => ⟨fun h => by simp at h; omega, fun _ => rfl⟩, fun _ _ => rfl, Same.refl w⟩
  | v :: news, i, w, cur, hg, hfit, hone => by
    have h0 := hfit 0 (by simp)
    simp only [Nat.add_zero] at h0
    have hv : v.oneCell' = true := by rw [← one']; exact hone v (by simp)
    have haddr : a.add i = ⟨g, a.off + i, none⟩ := by rw [addr_add_off a i hs, ha]
    have hcell : ∃ u, w.cell? (a.add i) = some u := by
      rw [haddr]
      exact ⟨cur[a.off + i], by simp [World.cell?, hg, h0.1]⟩
    obtain ⟨u, hu⟩ := hcell
    have hfr : w.frozen? (a.add i) = false := by
      rw [haddr]
      simp only [World.frozen?, hg]
      rw [Bool.and_eq_false_iff]
      simp only [decide_eq_false_iff_not]
      by_cases h1 : fz.1 ≤ a.off + i
      · right; intro h2; exact h0.2 ⟨h1, h2⟩
      · left; exact h1
    have hnew : (w.setCell (a.add i) v).heap[g]? = some (.cells (cur.setIfInBounds (a.off + i) v) e fz) := by
      rw [haddr]
      exact heap_setCell_same (a := ⟨g, a.off + i, none⟩) hg rfl v
    obtain ⟨w', cur', hrun, h1, h2, h3, h4, h5⟩ := run_stores g e fz a ha hs news (i + 1) _ _ hnew (fun j hj => by
      have := hfit (j + 1) (by simp; omega)
      rw [Array.size_setIfInBounds]
      constructor
      · have := this.1; omega
      · have := this.2; intro hh; exact this ⟨by omega, by omega⟩) (fun x hx => hone x (by simp [hx]))
    refine ⟨w', cur', ?_, h1, by rw [h2, Array.size_setIfInBounds], fun k => ?_, fun k hk => ?_, ?_⟩
    · show ((store (a.add i) v) >>= fun _ => storeCells a news (i + 1)).run P w = _
      rw [Sem.run_bind, run_store P w (a.add i) v .plain hv, hu]
      simp only [hfr, Bool.false_eq_true, if_false, Result.andThen_ok]
      exact hrun
    · obtain ⟨h3a, h3b⟩ := h3 k
      constructor
      · intro hk
        simp only [List.length_cons] at hk
        by_cases hk0 : k = a.off + i
        · subst hk0
          rw [h3b (by omega), Array.getElem?_setIfInBounds]
          simp [h0.1]
        · rw [h3a (by omega)]
          have : k - (a.off + i) = (k - (a.off + (i + 1))) + 1 := by omega
          rw [this]
          simp
      · intro hk
        simp only [List.length_cons] at hk
        rw [h3b (by omega), Array.getElem?_setIfInBounds, if_neg (by omega)]
    · rw [h4 k hk]
      exact heap_setCell _ _ _ _ (by rw [haddr]; exact hk)
    · exact Same.trans (b := w.setCell (a.add i) v) ⟨rfl, rfl, rfl, Nat.le_of_eq (World.size_setCell ..).symm⟩ h5

def storesAt (base : Option Addr) (off : Nat) (new : Array Value) : Sem Unit :=
  match base with
  | some a => storeCells (a.add off) new.toList
  | none => pure ()
/-- The whole append, where its parts are known: there is room. -/
theorem run_append_fit (w : World) (t xt ty e : TypeId) (i : TypeInfo) (d : TypeDesc) (ht : P.underlying t = some (.slice e)) (hi : P.info? e = some i) (hxt : P.underlying xt = some d) (hd : ∀ k, d ≠ .int k)
    (base : Option Addr) (n c m : Nat) (x : Value) (new : Array Value) (hn : (Builtin.lenOf x).run P w = .ok m w) (hnew : (Builtin.firstCells i.size m x).run P w = .ok new w) (hfit : n + m ≤ c) :
    (Builtin.append_ #[t, xt] ty #[.slice base n c, x]).run P w = ((storesAt base (n * i.size) new).run P w).andThen fun _ w' => .ok (.slice base (n + m) c) w' := by
  cases base with
  | none => simp [Builtin.append_, run_underlying ht, run_underlying hxt, sizeOf, typeInfo, hi, hn, hfit, hnew, storesAt]
  | some a => simp [Builtin.append_, run_underlying ht, run_underlying hxt, sizeOf, typeInfo, hi, hn, hfit, hnew, storesAt]
/-- There is none: the slice grows. -/
theorem run_append_more (w : World) (t xt ty e : TypeId) (i : TypeInfo) (z : Value) (d : TypeDesc) (ht : P.underlying t = some (.slice e)) (hi : P.info? e = some i) (hz : i.zero = some z) (hxt : P.underlying xt = some d) (hd : ∀ k, d ≠ .int k)
    (base : Option Addr) (n c m : Nat) (x : Value) (old new : Array Value) (hn : (Builtin.lenOf x).run P w = .ok m w)
    (hold : (Builtin.firstCells i.size n (.slice base n c)).run P w.drew = .ok old w.drew) (hnew : (Builtin.firstCells i.size m x).run P w.drew = .ok new w.drew)
    (hfit : c < n + m) (hb : (n + m) * i.bytes ≤ 140737488355328) (h63 : n + m ≤ 140737488355328) :
    (Builtin.append_ #[t, xt] ty #[.slice base n c, x]).run P w =
      .ok (.slice (some ⟨w.heap.size, 0, none⟩) (n + m) (grownCap w (n + m) c e))
        (w.drew.alloc (.cells (old ++ new ++ Builtin.zeroCells z.cells (grownCap w (n + m) c e - (n + m))) e)) := by
  have hno : ¬ (n + m ≤ c) := by omega
  have h48 := growslice_fits hfit hb
  have h48' : ¬ (281474976710656 < Builtin.nextslicecap (n + m) c * i.bytes) := by omega
  have h63' : ¬ (9223372036854775807 < ((n : Int) + (m : Int))) := by omega
  simp [Builtin.append_, run_underlying ht, run_underlying hxt, sizeOf, typeInfo, zeroValue, hi, hz, hn, hno, h63', h48', Question.forced, hold, hnew, newRow, grownCap]

/-- The row of a grown slice: a new block, or (its room not known) the old one given up for a new name. -/
def growIn (P : Program) (e : TypeId) (size n need : Nat) (cs : List Value) (base : Option Addr) (h : AH) : Option (Value × AH) :=
  match base with
  | none => some (.slice (some ⟨h.n, 0, none⟩) need need, h.push (.cells cs e 0 0 false false))
  | some a =>
    match h.get a.block with
    | some (.cells _ e0 lo hi ex st) =>
      cond ex (some (.slice (some ⟨h.n, 0, none⟩) need need, (h.rdBit a.block).push (.cells cs e 0 0 false false)))
        (cond (Nat.ble lo hi && Nat.beq e0 e && Nat.beq (P.cellsOf e) size && small a.block && (Nat.ble hi lo || (Nat.ble a.off lo && Nat.ble hi (a.off + n * size) && !(Nat.beq n 0))))
          (some (.slice (some ⟨h.n, 0, none⟩) need need, (h.kill a.block).push (.cells cs e (lo - a.off) (hi - a.off) false st))) none)
    | _ => none
def growA (P : Program) (t : TypeId) (s x : Value) (h : AH) : Option (Value × AH) :=
  match s, P.underlying t with
  | .slice base n c, some (.slice e) =>
    match P.info? e with
    | none => none
    | some i =>
      match i.zero with
      | none => none
      | some z =>
        match arun P (Builtin.lenOf x) h with
        | none => none
        | some (m, _) =>
          match arun P (Builtin.firstCells i.size n s) h with
          | none => none
          | some (old, h1) =>
            match arun P (Builtin.firstCells i.size m x) h1 with
            | none => none
            | some (new, h2) =>
              cond (Nat.blt c (n + m) && Nat.ble ((n + m) * i.bytes) 140737488355328 && Nat.ble (n + m) 140737488355328 && small h2.n && Nat.beq z.cells.size i.size && Nat.beq old.size (n * i.size) && Nat.beq new.size (m * i.size) && new.toList.all oneCell && Nat.beq (P.cellsOf e) i.size)
                (growIn P e i.size n (n + m) (old.toList ++ new.toList) base h2) none
  | _, _ => none

theorem rel_drew {κ : K} {G : Nat → Option AObj} {w : World} (h : Rel P κ G w) : Rel P κ G w.drew :=
  ⟨fun id o e => let ⟨b, h1, h2⟩ := h.at_ id o e; ⟨b, h1, h2.heap rfl⟩, h.one, h.old⟩
theorem lenOf_run {κ : K} {x x' : Value} (h : VR κ x x') {hh : AH} {m : Nat} {h1 : AH} (e : arun P (Builtin.lenOf x) hh = some (m, h1)) (w : World) :
    (Builtin.lenOf x').run P w = .ok m w ∧ (∀ a k c, x = .slice (some a) k c → k = m) := by
  cases h <;> first
    | (simp only [Builtin.lenOf, pure, arun, Option.some.injEq, Prod.mk.injEq] at e; refine ⟨by rw [← e.1]; rfl, fun a k c e' => ?_⟩; first | (cases e'; exact e.1) | cases e')
    | (cases e; done)

theorem cells_rep (z : Array Value) (n : Nat) : (Builtin.zeroCells z n).size = n * z.size := by simp [Builtin.zeroCells]

theorem fresh_row {κ : K} {G : Nat → Option AObj} {w : World} (hrel : Rel P κ G w) {j : Nat} (hG : G j = none) (hκ : κ j = none) {e : TypeId} {cs cs' : List Value} (hcs : VL κ cs cs') (rest : Array Value) {sz : Nat} (hsz : P.cellsOf e = sz) (lo hi : Nat) (st : Bool) :
    Rel P (fun i => if i = j then some ⟨w.heap.size, 0, cs.length + rest.size, false, sz⟩ else κ i) (fun i => if i = j then some (.cells cs e lo hi false st) else G i) (w.drew.alloc (.cells (cs'.toArray ++ rest) e)) := by
  have hle : K.le κ (fun i => if i = j then some ⟨w.heap.size, 0, cs.length + rest.size, false, sz⟩ else κ i) := fun i y hy => by
    by_cases hi : i = j
    · subst hi; rw [hκ] at hy; cases hy
    · simp only [hi, if_false]; exact hy
  refine (rel_drew hrel).alloc hG hκ rfl ⟨rfl, by simpa using hsz.symm, by simp, cs'.toArray ++ rest, (0, 0), ⟨_, ?_, fun _ => rfl⟩, ?_, fun i v hv => ?_, fun _ => .inl rfl⟩
  · show (w.heap.push _)[w.heap.size]? = _
    simp
  · simp [hcs.length]
  · rcases hcs.get i with ⟨h1, _⟩ | ⟨u, u', h1, h2, h3⟩
    · rw [h1] at hv; cases hv
    · rw [h1] at hv; cases hv
      refine ⟨u', ?_, fun _ => h3.mono hle⟩
      have hlt : i < cs'.length := by
        rcases Nat.lt_or_ge i cs'.length with hh | hh
        · exact hh
        · rw [List.getElem?_eq_none hh] at h2; cases h2
      simp only [Nat.zero_add]
      rw [Array.getElem?_append_left (by simpa using hlt)]
      simpa using h2

theorem growA_ext {t : TypeId} {s x : Value} {h : AH} {v : Value} {h' : AH} (e : growA P t s x h = some (v, h')) (wf : WF h) : Ext h h' ∧ WF h' := by
  unfold growA at e
  split at e
  · rename_i base n c el hun
    split at e
    · cases e
    split at e
    · cases e
    split at e
    · cases e
    split at e
    · cases e
    rename_i old h1 hold
    split at e
    · cases e
    rename_i new h2 hnew
    have x1 := arun_ext P _ _ _ _ hold wf
    have x2 := arun_ext P _ _ _ _ hnew x1.2
    cases hc : (Nat.blt _ _ && _ && _ && small h2.n && _ && _ && _ && _ && _) with
    | false => rw [hc] at e; cases e
    | true =>
      rw [hc] at e
      simp only [cond_true] at e
      simp only [Bool.and_eq_true] at hc
      have hsm : small h2.n = true := hc.1.1.1.1.1.2
      refine ⟨(x1.1.trans x2.1).trans ?_, ?_⟩ <;> unfold growIn at e <;> split at e
      · cases e; exact ext_push x2.2 hsm _
      · split at e
        · rename_i c0 e0 lo hi ex st hg
          cases ex with
          | true => cases e; exact (ext_rdBit h2 _).trans (ext_push (wf_rdBit x2.2 _) hsm _)
          | false =>
            simp only [cond_false] at e
            cases hq : (Nat.ble lo hi && Nat.beq e0 el && _ && small _ && _) with
            | false => rw [hq] at e; cases e
            | true =>
              rw [hq] at e
              cases e
              simp only [Bool.and_eq_true] at hq
              have hs' := hq.1.2
              exact (ext_kill hs').trans (ext_push (wf_kill x2.2 hs' (x2.2.dom _ _ hg)) hsm _)
        · cases e
      · cases e; exact wf_push x2.2 hsm _
      · split at e
        · rename_i c0 e0 lo hi ex st hg
          cases ex with
          | true => cases e; exact wf_push (wf_rdBit x2.2 _) hsm _
          | false =>
            simp only [cond_false] at e
            cases hq : (Nat.ble lo hi && Nat.beq e0 el && _ && small _ && _) with
            | false => rw [hq] at e; cases e
            | true =>
              rw [hq] at e
              cases e
              simp only [Bool.and_eq_true] at hq
              have hs' := hq.1.2
              exact wf_push (wf_kill x2.2 hs' (x2.2.dom _ _ hg)) hsm _
        · cases e
  · cases e

/-- Where there is room. -/
def fitA (P : Program) (t : TypeId) (s x : Value) (h : AH) : Option (Value × AH) :=
  match s, P.underlying t with
  | .slice base n c, some (.slice e) =>
    match P.info? e with
    | none => none
    | some i =>
      match arun P (Builtin.lenOf x) h with
      | none => none
      | some (m, _) =>
        cond (Nat.ble (n + m) c)
          (match arun P (Builtin.firstCells i.size m x) h with
            | none => none
            | some (new, h1) => match arun P (storesAt base (n * i.size) new) h1 with
              | some (_, h2) => some (.slice base (n + m) c, h2)
              | none => none) none
  | _, _ => none
theorem fitA_ext {t : TypeId} {s x : Value} {h : AH} {v : Value} {h' : AH} (e : fitA P t s x h = some (v, h')) (wf : WF h) : Ext h h' ∧ WF h' := by
  unfold fitA at e
  split at e
  · split at e
    · cases e
    split at e
    · cases e
    rename_i m _ _
    cases hc : Nat.ble (_ + m) _ with
    | false => rw [hc] at e; cases e
    | true =>
      rw [hc] at e
      simp only [cond_true] at e
      split at e
      · cases e
      rename_i h1 hnew
      split at e
      · rename_i h2 hst
        cases e
        have x1 := arun_ext P _ _ _ _ hnew wf
        have x2 := arun_ext P _ _ _ _ hst x1.2
        exact ⟨x1.1.trans x2.1, x2.2⟩
      · cases e
  · cases e
theorem sr_first {κ : K} (size m : Nat) {x x' : Value} (h : VR κ x x') (hm : ∀ a k c, x = .slice (some a) k c → k = m) :
    SR P (fun κ' a b => AR κ' a b ∧ (m = 0 → a = #[] ∧ b = #[])) κ (Builtin.firstCells size m x) (Builtin.firstCells size m x') := by
  by_cases h0 : m = 0
  · subst h0
    have := sr_firstCells_zero (P := P) size h
    have h2 := SR.bind' (f := Sem.pure) (f' := Sem.pure) (R' := fun κ' a b => AR κ' a b ∧ (0 = 0 → a = #[] ∧ b = #[])) this (fun κ1 a b _ hab => by obtain ⟨rfl, rfl⟩ := hab; exact .pure ⟨.nil, fun _ => ⟨rfl, rfl⟩⟩)
    have e1 : ∀ s : Sem (Array Value), s >>= Sem.pure = s := fun s => Sem.bind_pure' s
    rw [e1, e1] at h2
    exact h2
  · have := sr_firstCells (P := P) size m h fun a k c e => .inl (by rw [hm a k c e]; exact h0)
    have h2 := SR.bind' (f := Sem.pure) (f' := Sem.pure) (R' := fun κ' a b => AR κ' a b ∧ (m = 0 → a = #[] ∧ b = #[])) this (fun κ1 a b _ hab => .pure ⟨hab, fun e => absurd e h0⟩)
    have e1 : ∀ s : Sem (Array Value), s >>= Sem.pure = s := fun s => Sem.bind_pure' s
    rw [e1, e1] at h2
    exact h2

/-- What becomes of an append in the world. -/
def AppendGives (P : Program) (κ : K) (G : Nat → Option AObj) (h h' : AH) (w : World) (t xt ty : TypeId) (s' x' v : Value) : Prop :=
  ∃ κ' v' w', (Builtin.append_ #[t, xt] ty #[s', x']).run P w = .ok v' w' ∧ VR κ' v v' ∧ Rel P κ' (merge h h' G) w' ∧ KX h h' κ κ' w w'
theorem fitA_sound {t xt ty : TypeId} {s x : Value} {h : AH} {v : Value} {h' : AH} (e : fitA P t s x h = some (v, h')) (wf : WF h) {d : TypeDesc} (hxt : P.underlying xt = some d) (hd : ∀ k, d ≠ .int k)
    {κ : K} {G : Nat → Option AObj} {w : World} (hrel : Rel P κ G w) (hag : Agree h h' G) (hfs : Fresh h h' κ G) {s' x' : Value} (hs : VR κ s s') (hx : VR κ x x') : AppendGives P κ G h h' w t xt ty s' x' v := by
  unfold fitA at e
  split at e
  · rename_i base n c el hun
    split at e
    · cases e
    rename_i i hi
    split at e
    · cases e
    rename_i m hl0 hlen
    cases hc : Nat.ble (n + m) c with
    | false => rw [hc] at e; cases e
    | true =>
      rw [hc] at e
      simp only [cond_true] at e
      have hfit : n + m ≤ c := by rwa [Nat.ble_eq] at hc
      split at e
      · cases e
      rename_i new h1 hnew
      split at e
      · rename_i h2 hst
        cases e
        obtain ⟨hl1, hl2⟩ := lenOf_run hx hlen w
        have x1 := arun_ext P _ _ _ _ hnew wf
        have x2 := arun_ext P _ _ _ _ hst x1.2
        have hlo := lo_firstCells (P := P) _ _ _ _ _ _ hnew
        obtain ⟨new', hrun, hAR, hemp⟩ := read_sim (sr_first i.size m hx hl2) (lo_firstCells _ _ _) (ro_firstCells _ _ _) hnew wf hrel (hag.left x2.1)
        have hmr := merge_read wf hlo (hag.left x2.1)
        have hag1 := hag.right x1.1
        rw [hmr] at hag1
        have hfs1 : Fresh h1 h' κ G := fun id a b => hfs id (by have := hlo.2.1; omega) b
        have go : ∀ (base' : Option Addr) (c' : Nat), s' = .slice base' n c' → n + m ≤ c' → SR P EqR κ (storesAt base (n * i.size) new) (storesAt base' (n * i.size) new') →
            (∀ κ', κ.le κ' → VR κ' (.slice base (n + m) c) (.slice base' (n + m) c')) → AppendGives P κ G h h' w t xt ty s' x' (.slice base (n + m) c) := by
          intro base' c' hs' hfit' hsr hvr
          obtain ⟨κ', u, w', hr, _, hrel', hkx⟩ := run_sim hsr _ _ _ hst x1.2 G w hrel hag1 hfs1
          refine ⟨κ', .slice base' (n + m) c', w', ?_, hvr κ' hkx.le, ?_, ?_⟩
          · rw [hs', run_append_fit w t xt ty el i d hun hi hxt hd base' n c' m x' new' hl1 hrun hfit', hr]
            rfl
          · have := merge_merge (G := G) x1.1 x2.1
            rw [hmr] at this
            rw [← this]; exact hrel'
          · exact ⟨hkx.le, fun id hid => hkx.dom id (by have := hlo.2.1; omega), hkx.new, hkx.keep, hkx.same⟩
        cases hs with
        | sliceNil _ _ => exact go none c rfl hfit (.pure rfl) fun _ _ => .sliceNil _ _
        | slice hsl =>
          rename_i a a' c'
          obtain ⟨h1', h2', b, hb, hblk, hcase⟩ := hsl
          have hcc : c ≤ c' := by rcases hcase with ⟨_, e⟩ | ⟨_, _, _, e, _⟩ <;> omega
          refine go (some a') c' rfl (by omega) ?_ fun κ' hk => .slice ⟨h1', h2', b, hk _ _ hb, hblk, ?_⟩
          · by_cases hm0 : m = 0
            · obtain ⟨rfl, rfl⟩ := hemp hm0
              exact .pure rfl
            · have hoff : a'.off = b.sh + a.off := by
                rcases hcase with ⟨e, _⟩ | ⟨_, _, _, _, e | ⟨_, e⟩⟩
                · exact e
                · exact e
                · omega
              have haddr : AddrR κ a a' := ⟨h1', b, hb, by cases a'; simp only [] at *; subst h2' hblk hoff; rfl⟩
              exact sr_storeCells (haddr.add _) 0 hAR
          · rcases hcase with ⟨e1, e2⟩ | ⟨e1, e2, e3, e4, e5⟩
            · exact .inl ⟨e1, e2⟩
            · refine .inr ⟨e1, e2, e3, e4, ?_⟩
              rcases e5 with e5 | ⟨e5, e6⟩
              · exact .inl e5
              · exact .inr ⟨by omega, e6⟩
      · cases e
  · cases e
end
end Go.Ev
