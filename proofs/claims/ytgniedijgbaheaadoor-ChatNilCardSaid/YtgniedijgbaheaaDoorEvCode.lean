/- The evaluator over code and calls, and that it agrees with the machine. Holds for every program. -/
import Derived.Test.YtgniedijgbaheaaDoorEvOp
import Derived.Test.YtgniedijgbaheaaDoorEvDraw3
import Derived.Test.YtgniedijgbaheaaDoorEvGrow
import Derived.LoopN
import Derived.Scope
namespace Go.Ev
open Go

inductive AExit where
  | normal
  | exit (id : Nat)
  | goto (l : Nat)
  | ret
def AExit.to : AExit → Exit
  | .normal => .normal
  | .exit id => .exit id
  | .goto l => .goto l
  | .ret => .ret
abbrev RecC := Code → Fr → AH → Option (AExit × Fr × AH)
abbrev RecF := FuncId → List Value → AH → Option (Value × AH)

def loopA (rec : RecC) (c : Code) : Nat → Fr → AH → Option (AExit × Fr × AH)
  | 0, _, _ => none
  | n + 1, f, h => match rec c f h with
    | some (.normal, f1, h1) => loopA rec c n f1 h1
    | r => r
def scopeA (rec : RecC) (body : Code) : Nat → Code → Fr → AH → Option (AExit × Fr × AH)
  | 0, _, _, _ => none
  | n + 1, cur, f, h => match rec cur f h with
    | some (.goto l, f1, h1) => match findLabel body l with
      | some rest => scopeA rec body n rest f1 h1
      | none => some (.goto l, f1, h1)
    | r => r
def rounds : Nat := 1000000
/-- A function that is ranged over and comes to an end without a round. -/
def rangeA (P : Program) (gl : Nat) (recF : RecF) (g : Operand) (f : Fr) (h : AH) : Option AH :=
  cond (operandOk gl g)
    (match f.eval g with
      | .func (.func gf) ⟨first⟩ ⟨captured⟩ => match P.funcs[gf]? with
        | none => none
        | some fn => cond (fn.body.isSome && !(fn.name == "runtime.NumGoroutine"))
          (match recF gf (first ++ [.func (.yield 0) ⟨[]⟩ ⟨[]⟩] ++ captured) h with
            | some (_, h1) => some h1
            | none => none) none
      | _ => none) none
def stepC (P : Program) (gl : Nat) (ev : OpEv) (recF : RecF) (rec : RecC) : RecC
  | .skip, f, h => some (.normal, f, h)
  | .label _, f, h => some (.normal, f, h)
  | .seq a b, f, h => match rec a f h with
    | some (.normal, f1, h1) => rec b f1 h1
    | r => r
  | .cond c x y, f, h => cond (operandOk gl c) (match f.eval c with
      | .bool true => rec x f h
      | .bool false => rec y f h
      | _ => none) none
  | .block id c, f, h => match rec c f h with
    | some (.exit id', f1, h1) => some (cond (Nat.beq id' id) .normal (.exit id'), f1, h1)
    | r => r
  | .loop c, f, h => loopA rec c rounds f h
  | .exit id, f, h => some (.exit id, f, h)
  | .goto l, f, h => some (.goto l, f, h)
  | .ret, f, h => some (.ret, f, h)
  | .scope body, f, h => scopeA rec body rounds body f h
  | .region _ ops draw, f, h => match region ev ops draw f h with
    | some (f1, h1) => some (.normal, f1, h1)
    | none => none
  | .rangeFunc g _ _ _, f, h => match rangeA P gl recF g f h with
    | some h1 => some (.normal, f, h1)
    | none => none
  | .refuse _, _, _ => none

def ofArgs : List Value → Nat → T Value → T Value
  | [], _, t => t
  | v :: l, i, t => ofArgs l (i + 1) (t.set 24 i (some v))
def resultsF (get : Nat → Value) (fn : Func) : Sem Value := do
  let vs ← fn.results.mapM fun
    | .tmp t => pure (get t)
    | .cell a t => do loadVar t (← asAddr (get a))
  pure (if h : vs.size = 1 then vs[0] else .tuple vs)
def stepF (P : Program) (rec : RecC) : RecF := fun g args h =>
  match P.funcs[g]? with
  | none => none
  | some fn => match fn.body with
    | none => none
    | some c =>
      cond (small (args.length + (fn.ntmps - args.length)))
        (match rec c ⟨ofArgs args 0 .nil, args.length + (fn.ntmps - args.length)⟩ h with
          | some (.normal, f', h1) | some (.ret, f', h1) => arun P (resultsF f'.get fn) h1
          | _ => none) none

/-- The deferred calls that an activation has gathered: the marks of its ranges over functions. -/
def DefR (κ' : K) (w w' : World) (ds ds' : List Deferred) : Prop :=
  ∃ bs : List Nat, ds' = bs.map (fun D => ({ target := .collected D, args := #[] } : Deferred)) ++ ds ∧ bs.Nodup ∧
    ∀ D ∈ bs, w.heap.size ≤ D ∧ w'.heap[D]? = some (.deferred (some [])) ∧ ∀ id b, κ' id = some b → b.blk ≠ D
theorem DefR.of_eq {κ' : K} {w w' : World} {ds ds' : List Deferred} (h : ds' = ds) : DefR κ' w w' ds ds' := ⟨[], by simpa using h, List.nodup_nil, fun _ h => by cases h⟩
theorem DefR.keep {b c : AH} {κ1 κ2 : K} {w1 w2 : World} (hk : KX b c κ1 κ2 w1 w2) {D : Nat} {o : Obj} (ho : w1.heap[D]? = some o) (hn : ∀ id b, κ1 id = some b → b.blk ≠ D) :
    w2.heap[D]? = some o ∧ ∀ id b, κ2 id = some b → b.blk ≠ D := by
  have hlt : D < w1.heap.size := (Array.getElem?_eq_some_iff.1 ho).1
  refine ⟨by rw [hk.keep D hlt fun id b hb hbk => absurd hbk (hn id b hb)]; exact ho, fun id x hx hxd => ?_⟩
  rcases hk.new id x hx with h | h | ⟨i, y, hi, hy, _⟩
  · exact hn id x h hxd
  · omega
  · exact hn i y hi (hy.trans hxd)
theorem DefR.trans {b c : AH} {κ1 κ2 : K} {w w1 w2 : World} {ds ds1 ds2 : List Deferred} (h1 : DefR κ1 w w1 ds ds1) (hk : KX b c κ1 κ2 w1 w2) (hs : Same w w1) (h2 : DefR κ2 w1 w2 ds1 ds2) : DefR κ2 w w2 ds ds2 := by
  obtain ⟨bs1, rfl, n1, p1⟩ := h1
  obtain ⟨bs2, rfl, n2, p2⟩ := h2
  refine ⟨bs2 ++ bs1, by simp, List.nodup_append.2 ⟨n2, n1, fun x hx y hy e => ?_⟩, fun D hD => ?_⟩
  · subst e
    have := (p2 x hx).1
    have hlt := (Array.getElem?_eq_some_iff.1 (p1 x hy).2.1).1
    omega
  · rcases List.mem_append.1 hD with hD | hD
    · obtain ⟨q1, q2, q3⟩ := p2 D hD
      exact ⟨Nat.le_trans hs.size q1, q2, q3⟩
    · obtain ⟨q1, q2, q3⟩ := p1 D hD
      obtain ⟨r1, r2⟩ := DefR.keep hk q2 q3
      exact ⟨q1, r1, r2⟩
def CodeSound (P : Program) (gl : Nat) (rec : RecC) : Prop :=
  ∀ c f h ex f' h', rec c f h = some (ex, f', h') → WF h → small f.n = true → (Ext h h' ∧ WF h' ∧ f'.n = f.n) ∧
    ∀ (κ : K) (G : Nat → Option AObj) (a : Act) (w : World) (Q : Exit → Act → World → Prop), KG gl κ → Rel P κ G w → FrR κ f a → Agree h h' G → Fresh h h' κ G →
      (∀ κ' a' w', Rel P κ' (merge h h' G) w' → FrR κ' f' a' → DefR κ' w w' a.defers a'.defers → KX h h' κ κ' w w' → Q ex.to a' w') → c.wp P Q a w
def CallSound (P : Program) (gl : Nat) (rec : RecF) : Prop :=
  ∀ g args h v h', rec g args h = some (v, h') → WF h → (Ext h h' ∧ WF h') ∧
    ∀ (κ : K) (G : Nat → Option AObj) (args' : Array Value) (w : World), KG gl κ → Rel P κ G w → VL κ args args'.toList → Agree h h' G → Fresh h h' κ G →
      Calls P g args' w fun e w' => ∃ κ' v', e = .returned v' ∧ VR κ' v v' ∧ Rel P κ' (merge h h' G) w' ∧ KX h h' κ κ' w w'

section
variable {P : Program} {gl : Nat} {ev : OpEv} {rec : RecC}

theorem exit_then {Q : Exit → Act → World → Prop} {next : Act → World → Prop} {ex : AExit} {a : Act} {w : World} (hn : ex ≠ .normal) (h : Q ex.to a w) : Exit.then next Q ex.to a w := by
  cases ex with
  | normal => exact absurd rfl hn
  | _ => exact h

theorem loop_sound (hr : CodeSound P gl rec) (c : Code) : ∀ (n : Nat) f h ex f' h', loopA rec c n f h = some (ex, f', h') → WF h → small f.n = true → (Ext h h' ∧ WF h' ∧ f'.n = f.n) ∧
    ∀ (κ : K) (G : Nat → Option AObj) (a : Act) (w : World) (Q : Exit → Act → World → Prop), KG gl κ → Rel P κ G w → FrR κ f a → Agree h h' G → Fresh h h' κ G →
      (∀ κ' a' w', Rel P κ' (merge h h' G) w' → FrR κ' f' a' → DefR κ' w w' a.defers a'.defers → KX h h' κ κ' w w' → Q ex.to a' w') → Code.rounds P c Q n a w := by
  intro n
  induction n with
  | zero => intro f h ex f' h' e; cases e
  | succ n ih =>
    intro f h ex f' h' e wf hsm
    simp only [loopA] at e
    have done : rec c f h = some (ex, f', h') → ex ≠ .normal → (Ext h h' ∧ WF h' ∧ f'.n = f.n) ∧
        ∀ (κ : K) (G : Nat → Option AObj) (a : Act) (w : World) (Q : Exit → Act → World → Prop), KG gl κ → Rel P κ G w → FrR κ f a → Agree h h' G → Fresh h h' κ G →
          (∀ κ' a' w', Rel P κ' (merge h h' G) w' → FrR κ' f' a' → DefR κ' w w' a.defers a'.defers → KX h h' κ κ' w w' → Q ex.to a' w') → Code.rounds P c Q (n + 1) a w := by
      intro e hn
      obtain ⟨h1, h2⟩ := hr _ _ _ _ _ _ e wf hsm
      refine ⟨h1, fun κ G a w Q hg hrel hfr hag hfs hq => ?_⟩
      rw [rounds_succ]
      exact h2 κ G a w _ hg hrel hfr hag hfs fun κ' a' w' q1 q2 q3 q4 => exit_then hn (hq κ' a' w' q1 q2 q3 q4)
    split at e
    · rename_i f1 h1 hc
      obtain ⟨⟨x1, wf1, hn1⟩, s1⟩ := hr _ _ _ _ _ _ hc wf hsm
      obtain ⟨⟨x2, wf2, hn2⟩, s2⟩ := ih f1 h1 ex f' h' e wf1 (by rw [hn1]; exact hsm)
      refine ⟨⟨x1.trans x2, wf2, hn2.trans hn1⟩, fun κ G a w Q hg hrel hfr hag hfs hq => ?_⟩
      rw [rounds_succ]
      refine s1 κ G a w _ hg hrel hfr (hag.left x2) (hfs.left x2) fun κ1 a1 w1 q1 q2 q3 q4 => ?_
      refine s2 κ1 _ a1 w1 Q (hg.mono q4.le) q1 q2 (hag.right x1) (hfs.right x1 q4 fun id _ hw => wf1.wr id hw) fun κ2 a2 w2 r1 r2 r3 r4 => ?_
      exact hq κ2 a2 w2 (by rw [merge_merge x1 x2] at r1; exact r1) r2 (q3.trans r4 q4.same r3) (q4.trans x1 x2 r4)
    · rename_i hne
      refine done e ?_
      rintro rfl
      exact hne f' h' e

theorem scope_sound (hr : CodeSound P gl rec) (body : Code) : ∀ (n : Nat) cur f h ex f' h', scopeA rec body n cur f h = some (ex, f', h') → WF h → small f.n = true → (Ext h h' ∧ WF h' ∧ f'.n = f.n) ∧
    ∀ (κ : K) (G : Nat → Option AObj) (a : Act) (w : World) (Q : Exit → Act → World → Prop), KG gl κ → Rel P κ G w → FrR κ f a → Agree h h' G → Fresh h h' κ G →
      (∀ κ' a' w', Rel P κ' (merge h h' G) w' → FrR κ' f' a' → DefR κ' w w' a.defers a'.defers → KX h h' κ κ' w w' → Q ex.to a' w') →
      ∀ (b : Frame) (k : List Item) (cs : List Frame), ∃ e a' w', Q e a' w' ∧ Arrives P (lone (b.at a (.code cur :: .inScope body :: k)) cs w) b k cs e a' w' := by
  intro n
  induction n with
  | zero => intro cur f h ex f' h' e; cases e
  | succ n ih =>
    intro cur f h ex f' h' e wf hsm
    simp only [scopeA] at e
    split at e
    · rename_i l f1 h1 hc
      obtain ⟨⟨x1, wf1, hn1⟩, s1⟩ := hr _ _ _ _ _ _ hc wf hsm
      split at e
      · rename_i rest hf
        obtain ⟨⟨x2, wf2, hn2⟩, s2⟩ := ih rest f1 h1 ex f' h' e wf1 (by rw [hn1]; exact hsm)
        refine ⟨⟨x1.trans x2, wf2, hn2.trans hn1⟩, fun κ G a w Q hg hrel hfr hag hfs hq b k cs => ?_⟩
        have hgo : gotoIn l (.inScope body :: k) = some (.code rest :: .inScope body :: k) := by simp [gotoIn, hf]
        have := s1 κ G a w (fun e a1 w1 => e = .goto l ∧ ∃ e2 a2 w2, Q e2 a2 w2 ∧ Arrives P (lone (b.at a1 (.code rest :: .inScope body :: k)) cs w1) b k cs e2 a2 w2) hg hrel hfr (hag.left x2) (hfs.left x2) fun κ1 a1 w1 q1 q2 q3 q4 =>
          ⟨rfl, s2 κ1 _ a1 w1 Q (hg.mono q4.le) q1 q2 (hag.right x1) (hfs.right x1 q4 fun id _ hw => wf1.wr id hw) (fun κ2 a2 w2 r1 r2 r3 r4 =>
            hq κ2 a2 w2 (by rw [merge_merge x1 x2] at r1; exact r1) r2 (q3.trans r4 q4.same r3) (q4.trans x1 x2 r4)) b k cs⟩
        obtain ⟨e1, a1, w1, ⟨rfl, e2, a2, w2, hq2, harr2⟩, harr⟩ := this b (.inScope body :: k) cs
        exact ⟨e2, a2, w2, hq2, .of_steps (harr _ hgo) harr2⟩
      · rename_i hf
        cases e
        refine ⟨⟨x1, wf1, hn1⟩, fun κ G a w Q hg hrel hfr hag hfs hq b k cs => ?_⟩
        have := s1 κ G a w (fun e a1 w1 => e = .goto l ∧ Q e a1 w1) hg hrel hfr hag hfs fun κ1 a1 w1 q1 q2 q3 q4 => ⟨rfl, hq κ1 a1 w1 q1 q2 q3 q4⟩
        obtain ⟨e1, a1, w1, ⟨rfl, hq1⟩, harr⟩ := this b (.inScope body :: k) cs
        exact ⟨.goto l, a1, w1, hq1, fun k' hk => harr k' (by simp [gotoIn, hf, hk])⟩
    · rename_i hne
      obtain ⟨x1, s1⟩ := hr _ _ _ _ _ _ e wf hsm
      refine ⟨x1, fun κ G a w Q hg hrel hfr hag hfs hq b k cs => ?_⟩
      have := s1 κ G a w (fun e a1 w1 => e = ex.to ∧ Q e a1 w1) hg hrel hfr hag hfs fun κ1 a1 w1 q1 q2 q3 q4 => ⟨rfl, hq κ1 a1 w1 q1 q2 q3 q4⟩
      obtain ⟨e1, a1, w1, ⟨rfl, hq1⟩, harr⟩ := this b (.inScope body :: k) cs
      refine ⟨ex.to, a1, w1, hq1, ?_⟩
      cases ex with
      | normal => exact Steps.trans harr (.one step_inScope)
      | exit id => exact fun k' hk => harr k' (by simp [exitTo, hk])
      | goto l => exact absurd e (hne l f' h')
      | ret => exact harr
end
end Go.Ev
