/- A certified evaluator of calls, run by the kernel, with its rules for what is not known: what it tells holds of every program. -/
import Derived.Lib.Builder
import Derived.Lib.MakeNoZero
import Derived.Laws.IdiomStrings
import Derived.Test.YtnadimjglkodkaaGreatDoorKit3
namespace Go.Ev
open Go

def convA (P : Program) (src dst : TypeId) (v : Value) (h : AH) : Option (Value × AH) :=
  match P.underlying src, P.underlying dst, v with
  | some (.pointer t), some .unsafePointer, .pointer (some a) =>
    match a.spot, h.get a.block, P.info? t with
    | none, some (.cells c _ lo hi _ _), some i => cond (Nat.ble lo hi && (Nat.blt a.off c.length && !(Nat.beq i.size 0))) (some (v, h.rdBit a.block)) none
    | _, _, _ => none
  | some .unsafePointer, some (.pointer u), .pointer (some a) =>
    match a.spot, h.get a.block, P.info? u with
    | none, some (.cells c e lo hi true _), some _ => cond (Nat.ble lo hi && liesAt P P.depth e (c.length / P.cellsOf e) a.off u 1) (some (v, h.rdBit a.block)) none
    | _, _, _ => none
  | some .string, some (.slice e), .string s =>
    match P.underlying e with
    | some (.int .u8) => cond (Nat.beq (P.cellsOf e) 1 && small h.n) (some (.slice (some ⟨h.n, 0, none⟩) s.size s.size, h.push (.cells (s.data.toList.map fun b => .int .u8 b.toNat) e 0 0 false true))) none
    | _ => none
  | _, _, _ => none
/-- A literal's bytes: the row is marked. -/
def markA (P : Program) (src dst : TypeId) (v : Value) (h : AH) : Option (Value × AH) :=
  match P.underlying src, P.underlying dst, v with
  | some (.slice _), some (.slice e), .slice (some a) _ _ =>
    match P.underlying e, h.get a.block with
    | some (.int .u8), some (.cells c e0 lo hi ex st) => cond (Nat.ble lo hi && ((src == dst) && (st || Nat.ble hi lo) && small a.block)) (some (v, h.put a.block (.cells c e0 0 0 ex true))) none
    | _, _ => none
  | _, _, _ => none
def noEscapeA (P : Program) (g : FuncId) (args : List Value) : Option Value :=
  match P.funcs[g]?, args with
  | some fn, [x] => cond (fn.body.isNone && (fn.name == "internal/abi.NoEscape") && (Extern.findNext fn).isNone) (some x) none
  | _, _ => none
/-- A row whose bytes nobody knows. -/
def noZeroA (P : Program) (g : FuncId) (args : List Value) (h : AH) : Option (Value × AH) :=
  match P.funcs[g]?, args with
  | some fn, [.int .i64 (.ofNat n)] => match fn.resultTypes.toList with
    | [t] => match P.underlying t with
      | some (.slice e) => cond (fn.body.isNone && (fn.name == "internal/bytealg.MakeNoZero") && (Extern.findNext fn).isNone && Nat.ble n 16777216 && Nat.beq (P.cellsOf e) 1 && small h.n)
          (some (.slice (some ⟨h.n, 0, none⟩) n n, h.push (.cells (List.replicate n (.tuple #[])) e 0 0 false false))) none
      | _ => none
    | _ => none
  | _, _ => none
def sliceDataA (x : Value) : Option Value :=
  match x with
  | .slice (some a) _ c => cond (Nat.beq c 0) none (some (.pointer (some a)))
  | _ => none
def unsafeStringA (P : Program) (pt : TypeId) (x y : Value) (h : AH) : Option (Value × AH) :=
  match x, y, P.underlying pt with
  | .pointer (some a), .int _ (.ofNat m), some (.pointer u) =>
    match h.get a.block, a.spot with
    | some (.cells c e lo hi ex false), none =>
      cond (Nat.ble lo hi && Nat.blt 0 m && Nat.ble m 1099511627776 && Nat.beq (P.cellsOf e) 1 && sameLayout P P.depth e u && small a.block && Nat.ble (a.off + m) c.length)
        (match arun P (loadBytes a .empty m) h with
          | some (s, h1) => some (.string s, h1.put a.block (.cells c e (cond (Nat.blt lo hi) (min lo a.off) a.off) (cond (Nat.blt lo hi) (max hi (a.off + m)) (a.off + m)) ex false))
          | none => none) none
    | _, _ => none
  | _, _, _ => none
def special (P : Program) : OpEv := fun f o h =>
  match o.op with
  | .convert src dst x => match convA P src dst (f.eval x) h with
    | some r => some r
    | none => markA P src dst (f.eval x) h
  | .call c => match c.callee, c.args.toList with
    | .builtin .unsafeSliceData, [x] => match sliceDataA (f.eval x) with
      | some v => some (v, h)
      | none => none
    | .builtin .unsafeString, [x, y] => match c.argTypes[0]? with
      | some pt => unsafeStringA P pt (f.eval x) (f.eval y) h
      | none => none
    | .value z, l => match f.eval z with
      | .func (.func g) ⟨[]⟩ ⟨[]⟩ => match noEscapeA P g (l.map f.eval) with
        | some v => some (v, h)
        | none => noZeroA P g (l.map f.eval) h
      | _ => none
    | _, _ => none
  | _ => none
def checked (gl : Nat) (ev : OpEv) : OpEv := fun f o h => cond (o.op.operands.toList.all (operandOk gl)) (ev f o h) none

section
variable {P : Program} {gl : Nat}
theorem checked_sound {ev : OpEv} (he : ∀ f o h v h', ev f o h = some (v, h') → WF h → OpAt P gl f o h v h') : OpSound P gl (checked gl ev) := by
  intro f o h v h' e wf
  unfold checked at e
  cases hall : o.op.operands.toList.all (operandOk gl) with
  | false => rw [hall] at e; cases e
  | true =>
    rw [hall] at e
    have hat := he f o h v h' e wf
    refine ⟨hat.1, fun κ G a w K' Q hg hrel hag hfs ht hk => hat.2 κ G a w K' Q hg hrel hag hfs (fun x hx => ?_) hk⟩
    exact eval_rel hg (fun t hxt => ht t (hxt ▸ hx)) (List.all_eq_true.1 hall x (by simpa using hx))

theorem opAt_read {f : Fr} {o : Oper} {h h0 : AH} {v : Value} (hm : Marked h h0) (wf : WF h)
    (hrun : ∀ (κ : K) (G : Nat → Option AObj) (a : Act) (w : World), Rel P κ G w → Agree h h0 G → (∀ x ∈ o.op.operands, VR κ (f.eval x) (a.eval x)) → ∃ v', VR κ v v' ∧ OpGives P o a w v' w) : OpAt P gl f o h v h0 := by
  refine ⟨⟨hm.ext, hm.wf wf⟩, fun κ G a w K' Q hg hrel hag hfs hρ hk => ?_⟩
  obtain ⟨v', hv, hgv⟩ := hrun κ G a w hrel hag hρ
  refine wp_of_gives hgv (hk κ v' w hv (by rw [merge_read wf ⟨hm.1, hm.2.1, hm.2.2.1⟩ hag]; exact hrel) ?_)
  exact ⟨K.le_refl κ, fun _ _ => rfl, fun _ _ e => .inl e, fun _ _ _ => rfl, Same.refl w⟩

/-- Where a pointer into a row points in the world. -/
theorem row_at {κ : K} {G : Nat → Option AObj} {w : World} (hrel : Rel P κ G w) {a a' : Addr} (ha : AddrR κ a a') {c : List Value} {e : TypeId} {lo hi : Nat} {ex st : Bool} (hlh : lo ≤ hi) (hG : G a.block = some (.cells c e lo hi ex st)) :
    ∃ b c' fz, κ a.block = some b ∧ a' = ⟨b.blk, b.sh + a.off, none⟩ ∧ b.ex = ex ∧ w.heap[a'.block]? = some (.cells c' e fz) ∧ c'.size = b.tot ∧ b.sh + c.length ≤ b.tot ∧ (ex = true → b.sh = 0 ∧ b.tot = c.length) ∧ (ex = false → b.sz = P.cellsOf e) ∧ w.shape? a'.block = some (e, b.tot) := by
  obtain ⟨b, hb, ho1, ho2, ho3, c', fz, ⟨e', hc, het⟩, hsz, _⟩ := hrel.at_ _ _ hG
  rw [het hlh] at hc
  obtain ⟨_, b', hb', rfl⟩ := ha
  obtain rfl : b' = b := Option.some.inj (hb'.symm.trans hb)
  refine ⟨b', c', fz, hb, rfl, ho1, hc, hsz, ho3, fun h => ?_, fun h => ?_, by simp [World.shape?, hc, hsz]⟩
  · subst h; simpa using ho2
  · subst h; simpa using ho2

theorem noEscape_find {fn : Func} (h : fn.name = "internal/abi.NoEscape") : Extern.find fn = some Extern.AbiNoEscape.same := by
  unfold Extern.find
  rw [h]
  rfl

theorem fresh_bytes {κ : K} {G : Nat → Option AObj} {w : World} (hrel : Rel P κ G w) {j : Nat} (hG : G j = none) (hκ : κ j = none) {e : TypeId} (l : List Value) (hl : flatL l = true) (rest : Array Value) (hsz : P.cellsOf e = 1) :
    Rel P (fun i => if i = j then some ⟨w.heap.size, 0, l.length + rest.size, false, 1⟩ else κ i) (fun i => if i = j then some (.cells l e 0 0 false true) else G i)
      (w.drew.alloc (.cells (l.toArray ++ rest) e (l.length + rest.size, l.length + rest.size + 1))) := by
  refine (rel_drew hrel).alloc hG hκ rfl ⟨rfl, by simpa using hsz.symm, by simp, l.toArray ++ rest, _, ⟨_, ?_, fun _ => rfl⟩, ?_, fun i v hv => ?_, fun _ => .inr (.inl ⟨rfl, rfl⟩)⟩
  · show (w.heap.push _)[w.heap.size]? = _
    simp
  · simp
  · have hlt : i < l.length := by
      rcases Nat.lt_or_ge i l.length with q | q
      · exact q
      · rw [List.getElem?_eq_none q] at hv; cases hv
    refine ⟨v, ?_, fun _ => ?_⟩
    · simp only [Nat.zero_add]
      rw [Array.getElem?_append_left (by simpa using hlt)]
      simpa using hv
    · refine VR.flat v ?_
      have : ∀ (l : List Value), flatL l = true → ∀ v ∈ l, flatV v = true := by
        intro l
        induction l with
        | nil => intro _ v hv; simp at hv
        | cons x l ih =>
          intro h v hv
          simp only [flatL, Bool.and_eq_true] at h
          rcases List.mem_cons.1 hv with rfl | hv
          · exact h.1
          · exact ih h.2 v hv
      exact this l hl v (List.mem_of_getElem? hv)

theorem convA_sound {f : Fr} {o : Oper} {src dst : TypeId} {x : Operand} (ho : o.op = .convert src dst x) {h : AH} {v : Value} {h' : AH} (e : convA P src dst (f.eval x) h = some (v, h')) (wf : WF h) : OpAt P gl f o h v h' := by
  have hx : ∀ {κ : K} {a : Act}, (∀ x ∈ o.op.operands, VR κ (f.eval x) (a.eval x)) → VR κ (f.eval x) (a.eval x) := fun hρ => hρ x (by rw [ho]; simp [Op.operands])
  have give : ∀ {a : Act} {w w' : World} {v' : Value}, (convert src dst (a.eval x)).run P w = .ok v' w' → OpGives P o a w v' w' := by
    intro a w w' v' hr
    left
    simp [execOp, ho, hr]
  unfold convA at e
  split at e
  · rename_i t a hs hd hv
    split at e
    · rename_i c e0 lo hi ex st i hsp hg hinf
      cases hq : (Nat.ble lo hi && (Nat.blt a.off c.length && !(Nat.beq i.size 0))) with
      | false => rw [hq] at e; cases e
      | true =>
        rw [hq] at e
        cases e
        simp only [Bool.and_eq_true, Bool.not_eq_true', beq_eq, decide_eq_false_iff_not, Nat.ble_eq] at hq
        obtain ⟨hlh, hq⟩ := hq
        have hlt := blt_lt hq.1
        refine opAt_read (Marked.rdBit h _) wf fun κ G ac w hrel hag hρ => ?_
        have hvr := hx hρ
        rw [hv] at hvr
        generalize hv' : ac.eval x = v' at hvr
        cases hvr with
        | ptr ha =>
          rename_i a'
          have hGa := (hag a.block (wf.dom _ _ hg) (by simp [AH.touched, rd_rdBit])).trans hg
          obtain ⟨b, c', fz, h1, h2, h3, h4, h5, h6, h7, h8, h9⟩ := row_at hrel ha hlh hGa
          refine ⟨.pointer (some a'), by rw [hv]; exact .ptr ha, give ?_⟩
          rw [hv']
          refine Lib.run_to_unsafe w a' hs hd hinf hq.2 h9 ?_
          rw [h2]
          show b.sh + a.off < b.tot
          omega
    · cases e
  · rename_i u a hs hd hv
    split at e
    · rename_i c e0 lo hi st i hsp hg hinf
      cases hq : (Nat.ble lo hi && liesAt P P.depth e0 (c.length / P.cellsOf e0) a.off u 1) with
      | false => rw [hq] at e; cases e
      | true =>
        rw [hq] at e
        cases e
        simp only [Bool.and_eq_true, Nat.ble_eq] at hq
        obtain ⟨hlh, hq⟩ := hq
        refine opAt_read (Marked.rdBit h _) wf fun κ G ac w hrel hag hρ => ?_
        have hvr := hx hρ
        rw [hv] at hvr
        generalize hv' : ac.eval x = v' at hvr
        cases hvr with
        | ptr ha =>
          rename_i a'
          have hGa := (hag a.block (wf.dom _ _ hg) (by simp [AH.touched, rd_rdBit])).trans hg
          obtain ⟨b, c', fz, h1, h2, h3, h4, h5, h6, h7, h8, h9⟩ := row_at hrel ha hlh hGa
          obtain ⟨h10, h11⟩ := h7 rfl
          refine ⟨.pointer (some a'), by rw [hv]; exact .ptr ha, give ?_⟩
          rw [hv']
          refine Lib.run_from_unsafe w a' hs hd hinf h9 ?_
          rw [h2, h11, h10, Nat.zero_add]
          exact hq
    · cases e
  · rename_i el s hs hd hv
    split at e
    · rename_i hel
      cases hq : (Nat.beq (P.cellsOf el) 1 && small h.n) with
      | false => rw [hq] at e; cases e
      | true =>
        rw [hq] at e
        cases e
        simp only [Bool.and_eq_true, beq_eq, decide_eq_true_eq] at hq
        obtain ⟨hc1, hsm⟩ := hq
        refine ⟨⟨ext_push wf hsm _, wf_push wf hsm _⟩, fun κ G ac w K' Q hg hrel hag hfs hρ hk => ?_⟩
        have hvr := hx hρ
        rw [hv] at hvr
        generalize hv' : ac.eval x = v' at hvr
        cases hvr with
        | string =>
          have hnone := hfs h.n (Nat.le_refl _) (by show h.n < h.n + 1; omega)
          have hrun := run_bytes_of_string (P := P) w src dst el s hs hd hel
          have hge : s.size ≤ grownCap w s.size 0 el := by simp [grownCap, Question.cut]
          have hlen : (s.data.toList.map fun b => Value.int .u8 b.toNat).length = s.size := by rw [List.length_map, Array.length_toList]; rfl
          have hrow : bytesRow s (grownCap w s.size 0 el) = (s.data.toList.map fun b => Value.int .u8 b.toNat).toArray ++ Array.replicate (grownCap w s.size 0 el - s.size) (.int .u8 0) := by
            show s.data.map _ ++ _ = _ ++ _
            rw [← Array.toList_map, Array.toArray_toList]
          have hrs : (bytesRow s (grownCap w s.size 0 el)).size = (s.data.toList.map fun b => Value.int .u8 b.toNat).length + (Array.replicate (grownCap w s.size 0 el - s.size) (Value.int .u8 0)).size := by
            rw [hrow]; simp
          have hfl : flatL (s.data.toList.map fun b => Value.int .u8 b.toNat) = true := by
            have : ∀ l : List UInt8, flatL (l.map fun b => Value.int .u8 b.toNat) = true := by
              intro l
              induction l with
              | nil => rfl
              | cons x l ih => simp [flatL, flatV, ih]
            exact this _
          have hR := fresh_bytes (P := P) hrel hnone.1 hnone.2 (e := el) _ hfl (Array.replicate (grownCap w s.size 0 el - s.size) (.int .u8 0)) hc1
          rw [← hrow, ← hrs] at hR
          refine wp_of_gives (give (by rw [hv']; exact hrun)) (hk (fun i => if i = h.n then some ⟨w.heap.size, 0, (bytesRow s (grownCap w s.size 0 el)).size, false, 1⟩ else κ i) _ _ (.slice ⟨rfl, rfl, _, if_pos rfl, rfl, .inr ⟨rfl, ?_, Nat.le_refl _, hge, .inl rfl⟩⟩) ?_ ?_)
          · simp only [hrs, hlen, Array.size_replicate, Nat.zero_add, Nat.mul_one]
            omega
          · rw [merge_push wf (ext_push wf hsm _) hag hsm]
            exact hR
          · refine ⟨fun q y hy => ?_, fun q hq => if_neg ?_, fun q y hy => ?_, fun k hk _ => heap_push_old (w := w) hk, ⟨rfl, rfl, rfl, by rw [World.size_alloc, World.size_drew]; exact Nat.le_succ _⟩⟩
            · by_cases hqn : q = h.n
              · subst hqn; rw [hnone.2] at hy; cases hy
              · simp only [hqn, if_false]; exact hy
            · intro hqn; exact hq ⟨by omega, by show q < h.n + 1; omega⟩
            · by_cases hqn : q = h.n
              · simp only [hqn, if_true, Option.some.injEq] at hy; subst hy; exact .inr (.inl (Nat.le_refl _))
              · simp only [hqn, if_false] at hy; exact .inl hy
    · cases e
  · cases e

theorem noEscapeA_sound {f : Fr} {o : Oper} {c : Call} (ho : o.op = .call c) {z : Operand} (hc : c.callee = .value z) {g : FuncId} (hz : f.eval z = .func (.func g) ⟨[]⟩ ⟨[]⟩) {h : AH} {v : Value}
    (e : noEscapeA P g (c.args.toList.map f.eval) = some v) (wf : WF h) : OpAt P gl f o h v h := by
  unfold noEscapeA at e
  split at e
  · rename_i fn x hfn hargs
    cases hq : (fn.body.isNone && (fn.name == "internal/abi.NoEscape") && (Extern.findNext fn).isNone) with
    | false => rw [hq] at e; cases e
    | true =>
      rw [hq] at e
      cases e
      simp only [Bool.and_eq_true, beq_iff_eq, Option.isNone_iff_eq_none] at hq
      obtain ⟨⟨hb, hn⟩, hnx⟩ := hq
      refine opAt_read (Marked.refl h) wf fun κ G a w hrel hag hρ => ?_
      have hz' : VR κ (f.eval z) (a.eval z) := hρ z (by rw [ho]; simp [Op.operands, Call.operands, hc])
      rw [hz] at hz'
      obtain ⟨args, hl⟩ : ∃ args : List Operand, c.args = ⟨args⟩ := ⟨c.args.toList, rfl⟩
      rw [hl] at hargs
      match args, hargs, hl with
      | [y], hargs, hl =>
        simp only [List.map_cons, List.map_nil, List.cons.injEq, and_true] at hargs
        subst hargs
        have hy : VR κ (f.eval y) (a.eval y) := hρ y (by rw [ho]; simp [Op.operands, Call.operands, hl])
        refine ⟨a.eval y, hy, .inl ?_⟩
        generalize hzz : a.eval z = z' at hz'
        cases hz' with
        | func _ h1 h2 =>
          cases h1; cases h2
          have hne : ¬ fn.name = "runtime.NumGoroutine" := by rw [hn]; decide
          have hsame : ∀ x : Value, Extern.AbiNoEscape.same #[x] = pure x := fun x => rfl
          have hcall : ∀ x : Value, (callFunc g #[x]).run P w = .ok (.value x) w := fun x => by
            simp [callFunc, hfn, hne, hb, hnx, noEscape_find hn, hsame]
          simp [execOp, ho, resolve, hc, hl, hzz, Deferred.ofValue, invoke, hcall]
  · cases e

theorem noZero_find {fn : Func} (h : fn.name = "internal/bytealg.MakeNoZero") : Extern.find fn = some (Extern.BytealgMakeNoZero.makeNoZero fn.params fn.resultTypes) := by
  unfold Extern.find
  rw [h]
  rfl
theorem noZeroA_sound {f : Fr} {o : Oper} {c : Call} (ho : o.op = .call c) {z : Operand} (hc : c.callee = .value z) {g : FuncId} (hz : f.eval z = .func (.func g) ⟨[]⟩ ⟨[]⟩) {h : AH} {v : Value} {h' : AH}
    (e : noZeroA P g (c.args.toList.map f.eval) h = some (v, h')) (wf : WF h) : OpAt P gl f o h v h' := by
  unfold noZeroA at e
  split at e
  · rename_i fn n hfn hargs
    split at e
    · rename_i t hrt
      split at e
      · rename_i el hu
        cases hq : (fn.body.isNone && (fn.name == "internal/bytealg.MakeNoZero") && (Extern.findNext fn).isNone && Nat.ble n 16777216 && Nat.beq (P.cellsOf el) 1 && small h.n) with
        | false => rw [hq] at e; cases e
        | true =>
          rw [hq] at e
          cases e
          simp only [Bool.and_eq_true, beq_iff_eq, Option.isNone_iff_eq_none, Nat.ble_eq, beq_eq, decide_eq_true_eq] at hq
          obtain ⟨⟨⟨⟨⟨hb, hn⟩, hnx⟩, hle⟩, hc1⟩, hsm⟩ := hq
          refine ⟨⟨ext_push wf hsm _, wf_push wf hsm _⟩, fun κ G a w K' Q hg hrel hag hfs hρ hk => ?_⟩
          have hz' : VR κ (f.eval z) (a.eval z) := hρ z (by rw [ho]; simp [Op.operands, Call.operands, hc])
          rw [hz] at hz'
          have hrt' : fn.resultTypes = #[t] := by rw [← Array.toList_inj, hrt]
          obtain ⟨args, hl⟩ : ∃ args : List Operand, c.args = ⟨args⟩ := ⟨c.args.toList, rfl⟩
          rw [hl] at hargs
          have hl1 : args.length = 1 := by have := congrArg List.length hargs; simpa using this
          obtain ⟨y, rfl⟩ := List.length_eq_one_iff.1 hl1
          simp only [List.map_cons, List.map_nil, List.cons.injEq, and_true] at hargs
          have hy : VR κ (f.eval y) (a.eval y) := hρ y (by rw [ho]; simp [Op.operands, Call.operands, hl])
          rw [hargs] at hy
          generalize hyy : a.eval y = y' at hy
          generalize hzz : a.eval z = z' at hz'
          cases hy with
          | int =>
            cases hz' with
            | func _ h1 h2 =>
              cases h1; cases h2
              obtain ⟨cs, hrun, hcs⟩ := Lib.run_makeNoZero (P := P) w fn.params t el hu n (by omega)
              have hsz : n ≤ cs.size := hcs.1
              have hne : ¬ fn.name = "runtime.NumGoroutine" := by rw [hn]; decide
              have hcall : (callFunc g #[.int .i64 (Int.ofNat n)]).run P w = .ok (.value (.slice (some ⟨w.heap.size, 0, none⟩) n cs.size)) (w.drew.drew.alloc (.cells cs el)) := by
                have hrun' : (Extern.BytealgMakeNoZero.makeNoZero fn.params #[t] #[.int .i64 (Int.ofNat n)]).run P w = .ok (.slice (some ⟨w.heap.size, 0, none⟩) n cs.size) (w.drew.drew.alloc (.cells cs el)) := hrun
                simp only [Int.ofNat_eq_natCast] at hrun'
                simp [callFunc, hfn, hne, hb, hnx, noZero_find hn, hrt', hrun']
              have hnone := hfs h.n (Nat.le_refl _) (by show h.n < h.n + 1; omega)
              have hR : Rel P (fun i => if i = h.n then some ⟨w.heap.size, 0, cs.size, false, 1⟩ else κ i) (fun i => if i = h.n then some (.cells (List.replicate n (.tuple #[])) el 0 0 false false) else G i) (w.drew.drew.alloc (.cells cs el)) := by
                refine (rel_drew (rel_drew hrel)).alloc hnone.1 hnone.2 rfl ⟨rfl, by simpa using hc1.symm, by simpa using hsz, cs, (0, 0), ⟨_, ?_, fun _ => rfl⟩, rfl, fun i v hv => ?_, fun _ => .inl rfl⟩
                · show (w.heap.push _)[w.heap.size]? = _
                  simp
                · have hlt : i < n := by
                    rcases Nat.lt_or_ge i n with q | q
                    · exact q
                    · rw [List.getElem?_eq_none (by simpa using q)] at hv; cases hv
                  refine ⟨cs[i]'(by omega), by simp only [Nat.zero_add]; exact Array.getElem?_eq_getElem (by omega), fun hone => ?_⟩
                  rw [List.getElem?_replicate, if_pos hlt] at hv
                  cases hv
                  cases hone
              refine wp_of_gives (v' := .slice (some ⟨w.heap.size, 0, none⟩) n cs.size) (w' := w.drew.drew.alloc (.cells cs el)) (.inl ?_)
                (hk (fun i => if i = h.n then some ⟨w.heap.size, 0, cs.size, false, 1⟩ else κ i) _ _ (.slice ⟨rfl, rfl, _, if_pos rfl, rfl, .inr ⟨rfl, by simp, Nat.le_refl _, hsz, .inl rfl⟩⟩) ?_ ?_)
              · simp only [Int.ofNat_eq_natCast] at hcall hyy
                simp [execOp, ho, resolve, hc, hl, hzz, hyy, Deferred.ofValue, invoke, hcall]
              · rw [merge_push wf (ext_push wf hsm _) hag hsm]
                exact hR
              · refine ⟨fun q y hy => ?_, fun q hq => if_neg ?_, fun q y hy => ?_, fun k hk _ => heap_push_old (w := w) hk, ⟨rfl, rfl, rfl, by show w.heap.size ≤ (w.heap.push _).size; simp⟩⟩
                · by_cases hqn : q = h.n
                  · subst hqn; rw [hnone.2] at hy; cases hy
                  · simp only [hqn, if_false]; exact hy
                · intro hqn; exact hq ⟨by omega, by show q < h.n + 1; omega⟩
                · by_cases hqn : q = h.n
                  · simp only [hqn, if_true, Option.some.injEq] at hy; subst hy; exact .inr (.inl (Nat.le_refl _))
                  · simp only [hqn, if_false] at hy; exact .inl hy
      · cases e
    · cases e
  · cases e

theorem sliceDataA_sound {f : Fr} {o : Oper} {c : Call} (ho : o.op = .call c) {y : Operand} (hc : c.callee = .builtin .unsafeSliceData) (hl : c.args.toList = [y]) {h : AH} {v : Value}
    (e : sliceDataA (f.eval y) = some v) (wf : WF h) : OpAt P gl f o h v h := by
  unfold sliceDataA at e
  split at e
  · rename_i ad n cp hv
    cases hq : Nat.beq cp 0 with
    | true => rw [hq] at e; cases e
    | false =>
      rw [hq] at e
      cases e
      rw [beq_eq, decide_eq_false_iff_not] at hq
      have hl' : c.args = #[y] := by rw [← Array.toList_inj, hl]
      refine opAt_read (Marked.refl h) wf fun κ G a w hrel hag hρ => ?_
      have hy : VR κ (f.eval y) (a.eval y) := hρ y (by rw [ho]; simp [Op.operands, Call.operands, hl'])
      rw [hv] at hy
      generalize hyy : a.eval y = y' at hy
      cases hy with
      | slice hs =>
        rename_i a' c'
        obtain ⟨h1, h2, b, hb, hblk, hcase⟩ := hs
        have hcp : c' ≠ 0 := by rcases hcase with ⟨_, e⟩ | ⟨_, _, _, e, _⟩ <;> omega
        have hoff : a'.off = b.sh + ad.off := by
          rcases hcase with ⟨e, _⟩ | ⟨_, _, _, _, e | ⟨_, e⟩⟩
          · exact e
          · exact e
          · exact absurd e hq
        refine ⟨.pointer (some a'), .ptr ⟨h1, b, hb, by cases a'; simp only [] at *; subst h2 hblk hoff; rfl⟩, .inl ?_⟩
        have hsd : (Builtin.unsafeSliceData_ c.argTypes o.type #[.slice (some a') n c']).run P w = .ok (.pointer (some a')) w := by
          show (ite (c' ≠ 0) (pure (.pointer (some a')) : Sem Value) _).run P w = _
          rw [if_pos hcp]
          rfl
        simp [execOp, ho, resolve, hc, hl', invoke, builtin, hyy, hsd]
  · cases e

/-! ### a row seen as a text -/

theorem sr_loadBytes {κ : K} : ∀ (n : Nat) (acc : ByteArray) (κ' : K), κ.le κ' → ∀ {a a' : Addr}, AddrR κ' a a' → SR P EqR κ' (loadBytes a acc n) (loadBytes a' acc n)
  | 0, acc, κ', _, _, _, _ => .pure rfl
  | n + 1, acc, κ', hk, a, a', ha => by
    refine .load ha fun v v' hv => ?_
    cases hv with
    | int k b => cases k <;> first
      | exact sr_loadBytes n _ κ' hk (ha.add 1)
      | exact .halt
    | _ => exact .halt
theorem ro_loadBytes : ∀ (n : Nat) (a : Addr) (acc : ByteArray), RO P (loadBytes a acc n)
  | 0, _, _ => ro_pure _
  | n + 1, a, acc => ro_bind (ro_load a) fun v => by
    split
    · exact ro_loadBytes n _ _
    · exact ro_halt _
theorem lo_loadBytes : ∀ (n : Nat) (a : Addr) (acc : ByteArray), LO P (loadBytes a acc n)
  | 0, _, _ => lo_pure _
  | n + 1, a, acc => lo_bind (lo_load a) fun v => by
    split
    · exact lo_loadBytes n _ _
    · exact lo_halt _
theorem liesAt_row {e u : TypeId} {count off n : Nat} (h1 : P.cellsOf e = 1) (hs : sameLayout P P.depth e u = true) (hfit : off + n ≤ count) : liesAt P P.depth e count off u n = true := by
  have hd : ∃ d, P.depth = d + 1 := ⟨2 * (P.types.size + Made.depth) + 1, rfl⟩
  obtain ⟨d, hd⟩ := hd
  have hrow : rowAt P (sameLayout P P.depth · u) P.depth e count off n = true := by
    generalize hff : (sameLayout P P.depth · u) = ff
    have hfe : ff e = true := by rw [← hff]; exact hs
    rw [hd]
    unfold rowAt
    simp [h1, Nat.mod_one, hfit, hfe]
  have : liesAt P (d + 1) e count off u n = true := by
    unfold liesAt
    rw [hrow]
    rfl
  rw [hd]; exact this
theorem heap_freeze (w : World) (a : Addr) (n : Nat) (k : Nat) (hk : k ≠ a.block) : (w.freeze a n).heap[k]? = w.heap[k]? := by
  unfold World.freeze
  split
  · rfl
  · simp only []
    rw [Array.getElem?_modify]
    simp [Ne.symm hk]
theorem same_freeze (w : World) (a : Addr) (n : Nat) : Same w (w.freeze a n) := by
  unfold World.freeze
  split
  · exact Same.refl w
  · exact ⟨rfl, rfl, rfl, by simp⟩
theorem heap_freeze_same {w : World} {a : Addr} {c : Array Value} {e : TypeId} {f1 f2 : Nat} (h : w.heap[a.block]? = some (.cells c e (f1, f2))) (n : Nat) (hn : n ≠ 0) :
    (w.freeze a n).heap[a.block]? = some (.cells c e (if f1 == f2 then (a.off, a.off + n) else (min f1 a.off, max f2 (a.off + n)))) := by
  unfold World.freeze
  rw [if_neg hn]
  simp only []
  rw [Array.getElem?_modify]
  simp [h]
theorem Rel.freeze {κ : K} {G : Nat → Option AObj} {w : World} (hr : Rel P κ G w) {id : Nat} {b : BI} {c : List Value} {e : TypeId} {lo hi : Nat} {ex : Bool} (hG : G id = some (.cells c e lo hi ex false)) (hb : κ id = some b) {off n : Nat} (hn : n ≠ 0) (hlh : lo ≤ hi) :
    Rel P κ (fun j => if j = id then some (.cells c e (cond (Nat.blt lo hi) (min lo off) off) (cond (Nat.blt lo hi) (max hi (off + n)) (off + n)) ex false) else G j) (w.freeze ⟨b.blk, b.sh + off, none⟩ n) := by
  obtain ⟨b', hb', ho1, ho2, ho3, c', ⟨f1, f2⟩, ⟨e', hc, het⟩, hsz, hcells, hfz0⟩ := hr.at_ id _ hG
  rw [het hlh] at hc
  have hfz := hfz0 hlh
  obtain rfl : b' = b := Option.some.inj (hb'.symm.trans hb)
  have hnew := heap_freeze_same (a := ⟨b'.blk, b'.sh + off, none⟩) hc n hn
  have hsm := (same_freeze w ⟨b'.blk, b'.sh + off, none⟩ n).size
  refine ⟨fun j o hj => ?_, fun j j' o o' x x' hj hj' hx hx' hblk hvw => ?_, fun j x hx => Nat.lt_of_lt_of_le (hr.old j x hx) hsm⟩
  · by_cases hji : j = id
    · subst hji
      simp only [if_true, Option.some.injEq] at hj
      subst hj
      refine ⟨b', hb, ho1, ho2, ho3, c', _, ⟨_, hnew, fun _ => rfl⟩, hsz, hcells, fun _ => .inr (.inr ⟨rfl, ?_, ?_, ?_⟩)⟩
      · cases hl : Nat.blt lo hi with
        | true => have := blt_lt hl; simp only [cond_true]; omega
        | false => simp only [cond_false]; omega
      · rcases hfz with hf | ⟨hf, _⟩ | ⟨_, h1, h2, h3⟩
        · simp only at hf
          subst hf
          simp only [beq_self_eq_true, if_true]
          cases hl : Nat.blt lo hi with
          | true => simp only [cond_true]; omega
          | false => simp only [cond_false]; omega
        · cases hf
        · have hl : Nat.blt lo hi = true := by rw [Nat.blt_eq]; exact h1
          simp only [hl, cond_true]
          split <;> simp only [] <;> omega
      · rcases hfz with hf | ⟨hf, _⟩ | ⟨_, h1, h2, h3⟩
        · simp only at hf
          subst hf
          simp only [beq_self_eq_true, if_true]
          cases hl : Nat.blt lo hi with
          | true => simp only [cond_true]; omega
          | false => simp only [cond_false]; omega
        · cases hf
        · have hl : Nat.blt lo hi = true := by rw [Nat.blt_eq]; exact h1
          simp only [hl, cond_true]
          split <;> simp only [] <;> omega
    · simp only [hji, if_false] at hj
      obtain ⟨x, hx, hin⟩ := hr.at_ j o hj
      refine ⟨x, hx, hin.heap (heap_freeze _ _ _ _ ?_)⟩
      intro heq
      exact hji (hr.one j id _ _ x b' hj hG hx hb heq (by rw [view_typed hlh, Bool.and_false]))
  · have f : ∀ j o, (if j = id then some (AObj.cells c e (cond (Nat.blt lo hi) (min lo off) off) (cond (Nat.blt lo hi) (max hi (off + n)) (off + n)) ex false) else G j) = some o → ∃ o1, G j = some o1 ∧ (o1.view = true → o.view = true) := by
      intro j o h
      by_cases hji : j = id
      · subst hji; exact ⟨_, hG, fun h => by rw [view_typed hlh] at h; cases h⟩
      · rw [if_neg hji] at h; exact ⟨_, h, fun h => h⟩
    obtain ⟨o1, h1, v1⟩ := f j o hj
    obtain ⟨o2, h2, v2⟩ := f j' o' hj'
    exact hr.one j j' o1 o2 x x' h1 h2 hx hx' hblk (view_and hvw v1 v2)

theorem Rel.mark {κ : K} {G : Nat → Option AObj} {w : World} (hr : Rel P κ G w) {id : Nat} {b : BI} {c : List Value} {e : TypeId} {lo hi : Nat} {ex st : Bool} (hG : G id = some (.cells c e lo hi ex st)) (hb : κ id = some b) (hok : st = true ∨ hi ≤ lo) (hlh : lo ≤ hi) :
    Rel P κ (fun j => if j = id then some (.cells c e 0 0 ex true) else G j) (w.freeze ⟨b.blk, b.tot, none⟩ 1) := by
  obtain ⟨b', hb', ho1, ho2, ho3, c', ⟨f1, f2⟩, ⟨e', hc, het⟩, hsz, hcells, hfz0⟩ := hr.at_ id _ hG
  rw [het hlh] at hc
  have hfz := hfz0 hlh
  obtain rfl : b' = b := Option.some.inj (hb'.symm.trans hb)
  have hnew := heap_freeze_same (a := ⟨b'.blk, b'.tot, none⟩) hc 1 (by decide)
  have hsm := (same_freeze w ⟨b'.blk, b'.tot, none⟩ 1).size
  refine ⟨fun j o hj => ?_, fun j j' o o' x x' hj hj' hx hx' hblk hvw => ?_, fun j x hx => Nat.lt_of_lt_of_le (hr.old j x hx) hsm⟩
  · by_cases hji : j = id
    · subst hji
      simp only [if_true, Option.some.injEq] at hj
      subst hj
      refine ⟨b', hb, ho1, ho2, ho3, c', _, ⟨_, hnew, fun _ => rfl⟩, hsz, hcells, fun _ => .inr (.inl ⟨rfl, ?_⟩)⟩
      rcases hfz with hf | ⟨_, hf⟩ | ⟨hst, hlt, _⟩
      · simp only at hf
        subst hf
        simp
      · cases hf
        simp
      · rcases hok with hok | hok
        · rw [hst] at hok; cases hok
        · omega
    · simp only [hji, if_false] at hj
      obtain ⟨x, hx, hin⟩ := hr.at_ j o hj
      refine ⟨x, hx, hin.heap (heap_freeze _ _ _ _ ?_)⟩
      intro heq
      exact hji (hr.one j id _ _ x b' hj hG hx hb heq (by rw [view_typed hlh, Bool.and_false]))
  · have f : ∀ j o, (if j = id then some (AObj.cells c e 0 0 ex true) else G j) = some o → ∃ o1, G j = some o1 ∧ (o1.view = true → o.view = true) := by
      intro j o h
      by_cases hji : j = id
      · subst hji; exact ⟨_, hG, fun h => by rw [view_typed hlh] at h; cases h⟩
      · rw [if_neg hji] at h; exact ⟨_, h, fun h => h⟩
    obtain ⟨o1, h1, v1⟩ := f j o hj
    obtain ⟨o2, h2, v2⟩ := f j' o' hj'
    exact hr.one j j' o1 o2 x x' h1 h2 hx hx' hblk (view_and hvw v1 v2)

theorem markA_sound {f : Fr} {o : Oper} {src dst : TypeId} {x : Operand} (ho : o.op = .convert src dst x) {h : AH} {v : Value} {h' : AH} (e : markA P src dst (f.eval x) h = some (v, h')) (wf : WF h) : OpAt P gl f o h v h' := by
  unfold markA at e
  split at e
  · rename_i e1 el ad n cp hs hd hv
    split at e
    · rename_i c e0 lo hi ex st hel hg
      cases hq : (Nat.ble lo hi && ((src == dst) && (st || Nat.ble hi lo) && small ad.block)) with
      | false => rw [hq] at e; cases e
      | true =>
        rw [hq] at e
        cases e
        simp only [Bool.and_eq_true, Bool.or_eq_true, Nat.ble_eq] at hq
        obtain ⟨hlh, ⟨q1, q2⟩, q3⟩ := hq
        refine ⟨⟨ext_put q3 _, wf_put wf q3 (wf.dom _ _ hg) _⟩, fun κ G a w K' Q hkg hrel hag hfs hρ hk => ?_⟩
        have hvr : VR κ (f.eval x) (a.eval x) := hρ x (by rw [ho]; simp [Op.operands])
        have hvr0 := hvr
        rw [hv] at hvr
        generalize hv' : a.eval x = v' at hvr hvr0
        cases hvr with
        | slice hsl =>
          rename_i a' c'
          have hGa : G ad.block = some (.cells c e0 lo hi ex st) := (hag ad.block (wf.dom _ _ hg) (by simp [AH.touched, wr_put])).trans hg
          obtain ⟨b, hb, ho1, ho2, ho3, cc, fz, ⟨e', hc, het⟩, hsz, _⟩ := hrel.at_ _ _ hGa
          rw [het hlh] at hc
          obtain ⟨h1, h2, b', hb', hblk, _⟩ := hsl
          obtain rfl : b' = b := Option.some.inj (hb'.symm.trans hb)
          have hsh : w.shape? b'.blk = some (e0, b'.tot) := by simp [World.shape?, hc, hsz]
          refine wp_of_gives (v' := .slice (some a') n c') (w' := w.freeze ⟨b'.blk, b'.tot, none⟩ 1) (.inl ?_) (hk κ _ _ hvr0 ?_ ?_)
          · have : (convert src dst (.slice (some a') n c')).run P w = .ok (.slice (some a') n c') (w.freeze ⟨b'.blk, b'.tot, none⟩ 1) := by
              simp [convert, run_underlying hs, run_underlying hd, run_underlying hel, q1, markStringish, hsh, hblk]
            simp [execOp, ho, hv', this]
          · have e1 := merge_put (G := G) wf (ext_put (h := h) q3 (.cells c e0 0 0 ex true)) hag q3 (.cells c e0 0 0 ex true)
            rw [e1]
            exact hrel.mark hGa hb q2 hlh
          · refine ⟨K.le_refl κ, fun _ _ => rfl, fun _ _ e => .inl e, fun q hq hn => heap_freeze _ _ _ _ ?_, same_freeze _ _ _⟩
            intro heq
            have := hn ad.block b' hb (by rw [heq])
            rw [wr_put] at this
            simp at this
    · cases e
  · cases e

theorem unsafeStringA_sound {f : Fr} {o : Oper} {c : Call} (ho : o.op = .call c) {x y : Operand} (hc : c.callee = .builtin .unsafeString) (hl : c.args.toList = [x, y]) {pt : TypeId} (hpt : c.argTypes[0]? = some pt) {h : AH} {v : Value} {h' : AH}
    (e : unsafeStringA P pt (f.eval x) (f.eval y) h = some (v, h')) (wf : WF h) : OpAt P gl f o h v h' := by
  unfold unsafeStringA at e
  split at e
  · rename_i ad k m u hx hy hu
    split at e
    · rename_i cs el lo hi ex hg hsp
      cases hq : (Nat.ble lo hi && Nat.blt 0 m && Nat.ble m 1099511627776 && Nat.beq (P.cellsOf el) 1 && sameLayout P P.depth el u && small ad.block && Nat.ble (ad.off + m) cs.length) with
      | false => rw [hq] at e; cases e
      | true =>
        rw [hq] at e
        simp only [cond_true] at e
        simp only [Bool.and_eq_true, beq_eq, decide_eq_true_eq, Nat.ble_eq] at hq
        obtain ⟨⟨⟨⟨⟨⟨hlh, q1⟩, q2⟩, q3⟩, q4⟩, q5⟩, q6⟩ := hq
        have hm0 : m ≠ 0 := by have := blt_lt q1; omega
        split at e
        · rename_i s h1 hld
          cases e
          have x1 := arun_ext P _ _ _ _ hld wf
          have hlo := lo_loadBytes (P := P) _ _ _ _ _ _ hld
          have hlt1 : ad.block < h1.n := by rw [hlo.2.1]; exact wf.dom _ _ hg
          refine ⟨⟨x1.1.trans (ext_put q5 _), wf_put x1.2 q5 hlt1 _⟩, fun κ G a w K' Q hkg hrel hag hfs hρ hk => ?_⟩
          have hl' : c.args = #[x, y] := by rw [← Array.toList_inj, hl]
          have hvx : VR κ (f.eval x) (a.eval x) := hρ x (by rw [ho]; simp [Op.operands, Call.operands, hl'])
          have hvy : VR κ (f.eval y) (a.eval y) := hρ y (by rw [ho]; simp [Op.operands, Call.operands, hl'])
          rw [hx] at hvx
          rw [hy] at hvy
          generalize hxx : a.eval x = x' at hvx
          generalize hyy : a.eval y = y' at hvy
          cases hvy with
          | int =>
            cases hvx with
            | ptr ha =>
              rename_i a'
              have hag1 : Agree h h1 G := hag.left (ext_put q5 _)
              have hGa : G ad.block = some (.cells cs el lo hi ex false) :=
                (hag ad.block (wf.dom _ _ hg) (by simp [AH.touched, wr_put])).trans hg
              obtain ⟨b, c', fz, r1, r2, r3, r4, r5, r6, r7, r8, r9⟩ := row_at hrel ha hlh hGa
              obtain ⟨s', hrun, hs'⟩ := read_sim (sr_loadBytes (κ := κ) m .empty κ (K.le_refl κ) ha) (lo_loadBytes _ _ _) (ro_loadBytes _ _ _) hld wf hrel hag1
              cases hs'
              have hlies : liesAt P P.depth el (b.tot / P.cellsOf el) a'.off u m = true := by
                refine liesAt_row q3 q4 ?_
                rw [q3, Nat.div_one, r2]
                show b.sh + ad.off + m ≤ b.tot
                omega
              have hmax : ¬ ((m : Int) > IntKind.i64.max) := by
                have : IntKind.i64.max = 9223372036854775807 := by decide
                rw [this]; omega
              have hR := hrel.freeze hGa r1 (off := ad.off) hm0 hlh
              refine wp_of_gives (v' := .string s) (w' := w.freeze a' m) (.inl ?_) (hk κ _ _ (.string s) ?_ ?_)
              · have hvar : (variablesAt a' u m).run P w = .ok true w := by
                  simp [variablesAt, r9, hlies]
                have hmm : ¬ ((m : Int) < 0) := by omega
                have hm0' : ¬ ((m : Int) = 0) := by omega
                have he0 : (elemOf pt).run P w = .ok u w := by simp [elemOf, run_underlying hu]
                have hus : (Builtin.unsafeString_ c.argTypes o.type #[.pointer (some a'), .int k (Int.ofNat m)]).run P w = .ok (.string s) (w.freeze a' m) := by
                  show (asInt (.int k (Int.ofNat m)) >>= _).run P w = _
                  simp [asInt, asIntOf, hpt, hmm, hm0, he0, hvar, hrun]
                  omega
                simp [execOp, ho, resolve, hc, hl', invoke, builtin, hxx, hyy]
                have := hus
                simp at this
                simp [this]
              · have e1 : merge h (h1.put ad.block (.cells cs el (cond (Nat.blt lo hi) (min lo ad.off) ad.off) (cond (Nat.blt lo hi) (max hi (ad.off + m)) (ad.off + m)) ex false)) G =
                    fun j => if j = ad.block then some (.cells cs el (cond (Nat.blt lo hi) (min lo ad.off) ad.off) (cond (Nat.blt lo hi) (max hi (ad.off + m)) (ad.off + m)) ex false) else G j := by
                  have hmr := merge_read wf hlo hag1
                  have := merge_put (G := G) x1.2 (ext_put (h := h1) q5 (.cells cs el (cond (Nat.blt lo hi) (min lo ad.off) ad.off) (cond (Nat.blt lo hi) (max hi (ad.off + m)) (ad.off + m)) ex false))
                    (by have := hag.right x1.1; rwa [hmr] at this) q5 (.cells cs el (cond (Nat.blt lo hi) (min lo ad.off) ad.off) (cond (Nat.blt lo hi) (max hi (ad.off + m)) (ad.off + m)) ex false)
                  rw [← this, ← merge_merge (G := G) x1.1 (ext_put q5 _), hmr]
                rw [e1, r2]
                exact hR
              · refine ⟨K.le_refl κ, fun _ _ => rfl, fun _ _ e => .inl e, fun q hq hn => heap_freeze _ _ _ _ ?_, same_freeze _ _ _⟩
                intro heq
                have := hn ad.block b r1 (by rw [heq, r2])
                rw [wr_put] at this
                simp at this
        · cases e
    · cases e
  · cases e

theorem special_at {f : Fr} {o : Oper} {h : AH} {v : Value} {h' : AH} (e : special P f o h = some (v, h')) (wf : WF h) : OpAt P gl f o h v h' := by
  unfold special at e
  split at e
  · rename_i src dst x ho
    split at e
    · rename_i r hr
      cases e
      exact convA_sound ho hr wf
    · exact markA_sound ho e wf
  · rename_i c ho
    split at e
    · rename_i x hc hl
      split at e
      · rename_i v0 hv
        cases e
        exact sliceDataA_sound ho hc hl hv wf
      · cases e
    · rename_i x y hc hl
      split at e
      · rename_i pt hpt
        exact unsafeStringA_sound ho hc hl hpt e wf
      · cases e
    · rename_i z hc
      split at e
      · rename_i g hz
        split at e
        · rename_i v0 hv
          cases e
          exact noEscapeA_sound ho hc hz hv wf
        · exact noZeroA_sound ho hc hz e wf
      · cases e
    · cases e
  · cases e
end
end Go.Ev
namespace Go.Ev
open Go Go.Extern.Rtype Go.Extern

/-! ### programs that touch no memory -/

def freeOut {α : Type} : Option (α × AH) → Option α
  | some (x, h) => cond (Nat.beq h.n 0) (some x) none
  | none => none
theorem free_run {P : Program} {α : Type} (s : Sem α) : ∀ (h : AH) (x : α) (h' : AH), arun P s h = some (x, h') → h.t = .nil → h.n = 0 → WF h → h'.n = 0 → ∀ w, s.run P w = .ok x w := by
  induction s with
  | pure a => intro h x h' e _ _ _ _ w; cases e; rfl
  | load m a k ih =>
    intro h x h' e ht _ _ _ w
    simp only [arun] at e
    have : h.get a.block = none := by unfold AH.get; rw [ht]; rfl
    split at e
    · cases e
    · rw [this] at e; cases e
  | store m a v k ih =>
    intro h x h' e ht _ _ _ w
    simp only [arun] at e
    have : h.get a.block = none := by unfold AH.get; rw [ht]; rfl
    split at e
    · cases e
    · rw [this] at e; cases e
  | new o k ih =>
    intro h x h' e ht hn wf hn' w
    simp only [arun] at e
    split at e
    · cases hs : small h.n with
      | false => rw [hs] at e; cases e
      | true =>
        rw [hs] at e
        have := (arun_ext P _ _ _ _ e (wf_push wf hs _)).1.n
        have h1 : h.n + 1 ≤ h'.n := this
        omega
    · cases e
  | shape r k ih =>
    intro h x h' e ht _ _ _ w
    simp only [arun] at e
    have : h.get r = none := by unfold AH.get; rw [ht]; rfl
    rw [this] at e; cases e
  | freeze a n k ih => intro h x h' e; cases e
  | frozen a k ih => intro h x h' e; cases e
  | getObj r k ih =>
    intro h x h' e ht _ _ _ w
    simp only [arun] at e
    have : h.get r = none := by unfold AH.get; rw [ht]; rfl
    rw [this] at e; cases e
  | setObj r o k ih =>
    intro h x h' e ht _ _ _ w
    simp only [arun] at e
    have : h.get r = none := by unfold AH.get; rw [ht]; rfl
    rw [this] at e; cases e
  | choose q k ih =>
    intro h x h' e ht hn wf hn' w
    simp only [arun] at e
    cases hq : q.forced with
    | false => rw [hq] at e; cases e
    | true =>
      rw [hq] at e
      have := ih 0 h x h' e ht hn wf hn' w
      simp only [Sem.run, hq, if_true]; exact this
  | sys c k ih => intro h x h' e; cases e
  | program k ih =>
    intro h x h' e ht hn wf hn' w
    have := ih P h x h' e ht hn wf hn' w
    simp only [Sem.run]; exact this
  | mark m k ih =>
    intro h x h' e ht hn wf hn' w
    have := ih h x h' e ht hn wf hn' w
    simp only [Sem.run]; exact this
  | halt x => intro h y h' e; cases e
theorem freeOut_run {P : Program} {α : Type} {s : Sem α} {x : α} (e : freeOut (arun P s ⟨.nil, 0, 0, 0⟩) = some x) (w : World) : s.run P w = .ok x w := by
  unfold freeOut at e
  split at e
  · rename_i y h' he
    cases hn : Nat.beq h'.n 0 with
    | false => rw [hn] at e; cases e
    | true =>
      rw [hn] at e
      cases e
      exact free_run s _ _ _ he rfl rfl ⟨fun id o h => (by cases h), fun id h => (by simp at h)⟩ (by rw [beq_eq, decide_eq_true_eq] at hn; exact hn) w
  · cases e

/-! ### values that stand for themselves -/

mutual
def fixV (gs : Nat) : Value → Bool
  | .pointer (some a) => Nat.beq a.block gs && (match a.spot with
    | none => true
    | some _ => false)
  | .iface _ v => fixV gs v
  | .agg ⟨l⟩ => fixL gs l
  | v => flatV v
def fixL (gs : Nat) : List Value → Bool
  | [] => true
  | v :: l => fixV gs v && fixL gs l
end
/-- The block of the types' descriptors stands for itself. -/
def KGs (gs : Nat) (κ : K) : Prop := ∃ b, κ gs = some b ∧ b.blk = gs ∧ b.sh = 0
theorem KGs.mono {gs : Nat} {κ κ' : K} (hk : κ.le κ') (h : KGs gs κ) : KGs gs κ' := let ⟨b, h1, h2⟩ := h; ⟨b, hk _ _ h1, h2⟩
section
variable {gs : Nat} {κ : K}
mutual
theorem fix_eq (hk : KGs gs κ) : ∀ (v : Value) {v' : Value}, fixV gs v = true → VR κ v v' → v' = v
  | .pointer (some a), v', h, hv => by
    simp only [fixV, Bool.and_eq_true, Nat.beq_eq] at h
    obtain ⟨b, h1, h2, h3⟩ := hk
    cases hv with
    | ptr ha =>
      obtain ⟨q1, c, q2, rfl⟩ := ha
      rw [h.1, h1] at q2
      cases q2
      obtain ⟨x, y, z⟩ := a
      simp only at q1 h
      subst q1
      rw [h2, h3, h.1, Nat.zero_add]
  | .pointer none, v', h, hv => by cases hv; rfl
  | .iface t v, v', h, hv => by
    cases hv with
    | iface hi => rw [fix_eq hk v (by simpa [fixV] using h) hi]
  | .agg ⟨l⟩, v', h, hv => by
    cases hv with
    | agg hi => rw [fixL_eq hk l (by simpa [fixV] using h) hi]
  | .bool b, v', h, hv => by cases hv; rfl
  | .int k n, v', h, hv => by cases hv; rfl
  | .float k n, v', h, hv => by cases hv; rfl
  | .complex k n m, v', h, hv => by cases hv; rfl
  | .string s, v', h, hv => by cases hv; rfl
  | .slice a n c, v', h, hv => VR.eq_of_flat hv (by simpa [fixV] using h)
  | .map r, v', h, hv => VR.eq_of_flat hv (by simpa [fixV] using h)
  | .chan r, v', h, hv => VR.eq_of_flat hv (by simpa [fixV] using h)
  | .func fn a b, v', h, hv => VR.eq_of_flat hv (by simpa [fixV] using h)
  | .nilFunc, v', h, hv => by cases hv; rfl
  | .nilIface, v', h, hv => by cases hv; rfl
  | .tuple ⟨l⟩, v', h, hv => VR.eq_of_flat hv (by simpa [fixV] using h)
theorem fixL_eq (hk : KGs gs κ) : ∀ (l : List Value) {l' : List Value}, fixL gs l = true → VL κ l l' → l' = l
  | [], l', h, hv => by cases hv; rfl
  | v :: l, l', h, hv => by
    simp only [fixL, Bool.and_eq_true] at h
    cases hv with
    | cons h1 h2 => rw [fix_eq hk v h.1 h1, fixL_eq hk l h.2 h2]
end
mutual
theorem fix_self (hk : KGs gs κ) : ∀ (v : Value), fixV gs v = true → VR κ v v
  | .pointer (some a), h => by
    simp only [fixV, Bool.and_eq_true, Nat.beq_eq] at h
    obtain ⟨b, h1, h2, h3⟩ := hk
    obtain ⟨x, y, z⟩ := a
    obtain ⟨hx, hz⟩ := h
    cases z with
    | some _ => cases hz
    | none =>
      simp only at hx
      subst hx
      refine .ptr ⟨rfl, b, h1, ?_⟩
      rw [h2, h3, Nat.zero_add]
  | .pointer none, h => .ptrNil
  | .iface t v, h => .iface (fix_self hk v (by simpa [fixV] using h))
  | .agg ⟨l⟩, h => .agg (fixL_self hk l (by simpa [fixV] using h))
  | .bool b, h => .bool b
  | .int k n, h => .int k n
  | .float k n, h => .float k n
  | .complex k n m, h => .complex k n m
  | .string s, h => .string s
  | .slice a n c, h => VR.flat _ (by simpa [fixV] using h)
  | .map r, h => VR.flat _ (by simpa [fixV] using h)
  | .chan r, h => VR.flat _ (by simpa [fixV] using h)
  | .func fn a b, h => VR.flat _ (by simpa [fixV] using h)
  | .nilFunc, h => .nilFunc
  | .nilIface, h => .nilIface
  | .tuple ⟨l⟩, h => VR.flat _ (by simpa [fixV] using h)
theorem fixL_self (hk : KGs gs κ) : ∀ (l : List Value), fixL gs l = true → VL κ l l
  | [], h => .nil
  | v :: l, h => by
    simp only [fixL, Bool.and_eq_true] at h
    exact .cons (fix_self hk v h.1) (fixL_self hk l h.2)
end
theorem vr_handle {P : Program} (hk : KGs P.globals.size κ) (t : TypeId) : VR κ (typeHandle P t) (typeHandle P t) := by
  obtain ⟨b, h1, h2, h3⟩ := hk
  refine .ptr ⟨rfl, b, h1, ?_⟩
  show (⟨P.globals.size, t, none⟩ : Addr) = ⟨b.blk, b.sh + t, none⟩
  rw [h2, h3, Nat.zero_add]
end

/-! ### quiet programs -/

section
variable {P : Program} {κ : K}
theorem q_ofHandle (h : Value) : isq P (ofHandle h) := by
  show isq P (match handleType P h with | some t => (pure t : Sem TypeId) | none => stuck "a type descriptor expected")
  split <;> trivial
theorem q_noPack (s : String) (t : TypeId) : isq P (noPack s t) := by
  show isq P (if P.packed t = true then (unsupported (.noEntry ("extern/reflect: " ++ s ++ ": a type that a stand-in pack declares")) : Sem Unit) else pure ())
  split <;> trivial
theorem q_noPackHeld (s : String) (t : TypeId) : isq P (noPackHeld s t) := by
  unfold noPackHeld
  refine isq_bind' q_program fun p => ?_
  refine isq_bind' q_program fun p => ?_
  split <;> trivial
theorem q_noPackMethods (s : String) (t : TypeId) : isq P (noPackMethods s t) := by
  unfold noPackMethods
  refine isq_bind' q_program fun p => ?_
  refine isq_bind' q_program fun p => ?_
  split <;> trivial
theorem q_under (t : TypeId) : isq P (under t) := by
  unfold under
  refine isq_bind' (q_typeInfo t) fun i => ?_
  try dsimp only
  split
  · exact isq_bind' (q_typeInfo _) fun _ => trivial
  · trivial
theorem q_kind (t : TypeId) : isq P (kind t) := by
  unfold kind
  refine isq_bind' (q_under t) fun x => ?_
  obtain ⟨_, i⟩ := x
  try dsimp only
  split <;> trivial
theorem q_elem (t : TypeId) : isq P (elem? t) := by
  unfold elem?
  refine isq_bind' (q_under t) fun x => ?_
  try dsimp only
  split <;> trivial
theorem q_hasName (t : TypeId) : isq P (hasName t) := by
  unfold hasName
  refine isq_bind' (q_typeInfo t) fun x => ?_
  try dsimp only
  split <;> trivial
theorem q_cutType (n : String) : isq P (cutType n) := by
  unfold cutType
  refine isq_bind' q_program fun p => ?_
  split <;> trivial
theorem q_implements (t v : TypeId) : isq P (implements t v) := by
  unfold implements
  refine isq_bind' (q_noPackMethods _ _) fun _ => ?_
  refine isq_bind' (q_noPackMethods _ _) fun _ => ?_
  refine isq_bind' (q_under t) fun x => ?_
  refine isq_bind' (q_under v) fun y => ?_
  try dsimp only
  split
  · trivial
  · exact isq_bind' (q_typeInfo v) fun _ => trivial
  · trivial
theorem q_directly (t v : TypeId) : isq P (directlyAssignable t v) := by
  unfold directlyAssignable
  split
  · trivial
  · refine isq_bind' (q_hasName t) fun a => ?_
    have tail : isq P (do
        let (t, ti) ← under t
        let (v, vi) ← under v
        match ti.desc, vi.desc with
        | .chan _ e, .chan .both e' => pure (t == v || e == e')
        | _, _ => pure (t == v)) := by
      refine isq_bind' (q_under t) fun x => ?_
      obtain ⟨_, _⟩ := x
      refine isq_bind' (q_under v) fun y => ?_
      obtain ⟨_, _⟩ := y
      try dsimp only
      split <;> trivial
    refine isq_bind' (q_hasName v) fun b => ?_
    split
    · trivial
    · exact tail
theorem q_ofRtype (r : Value) : isq P (ReflectliteType.ofRtype r) := by
  unfold ReflectliteType.ofRtype
  cases r with
  | agg l =>
    obtain ⟨l⟩ := l
    match l with
    | [h] => exact isq_bind' (q_ofHandle _) fun t => isq_bind' (q_noPack _ _) fun _ => trivial
    | [] => trivial
    | _ :: _ :: _ => trivial
  | _ => trivial
theorem q_implements_ (u t : TypeId) : isq P (ReflectliteType.implements_ u t) := by
  unfold ReflectliteType.implements_
  refine isq_bind' (q_kind u) fun k => ?_
  split
  · exact isq_bind' (isq_bind' q_program fun _ => trivial) fun _ => isq_bind' (q_noPackMethods _ _) fun _ => isq_bind' (q_noPack _ _) fun _ => q_implements u t
  · exact isq_bind' (q_noPackMethods _ _) fun _ => isq_bind' (q_noPack _ _) fun _ => q_implements u t
theorem q_assignableTo (u t : TypeId) : isq P (ReflectliteType.assignableTo u t) := by
  unfold ReflectliteType.assignableTo
  have tail : isq P (do pure ((← directlyAssignable u t) || (← implements u t))) := isq_bind' (q_directly u t) fun _ => isq_bind' (q_implements u t) fun _ => trivial
  split
  · exact isq_bind' (q_noPackMethods _ _) fun _ => isq_bind' (q_noPackMethods _ _) fun _ => tail
  · exact tail

/-! ### over related values -/

theorem sr_handle (hk : KGs P.globals.size κ) (t : TypeId) : SR P VR κ (handle t) (handle t) := .program (.pure (vr_handle hk t))
theorem sr_toType (hk : KGs P.globals.size κ) (t : TypeId) : SR P VR κ (ReflectliteType.toType t) (ReflectliteType.toType t) := by
  unfold ReflectliteType.toType
  refine SR.bind' (sr_isq (q_cutType _)) ?_
  rintro κ1 u _ h1 rfl
  refine SR.bind' (sr_handle (hk.mono h1) t) fun κ2 v v' _ hv => ?_
  exact .pure (.iface (.agg (.cons hv .nil)))
theorem dies_panicString {α : Type} (m : String) : ∀ h, arun P (panicString m : Sem α) h = none := dies_right fun _ _ => rfl
theorem sr_elem (hk : KGs P.globals.size κ) (t : TypeId) : SR P VR κ (ReflectliteType.elem t) (ReflectliteType.elem t) := by
  unfold ReflectliteType.elem
  refine SR.bind' (sr_isq (q_elem t)) ?_
  rintro κ1 o _ h1 rfl
  cases o with
  | some e => exact sr_toType (hk.mono h1) e
  | none => exact .triv (dies_right fun _ => dies_panicString _)
/-- The methods of a type's descriptor. -/
theorem sr_method' {f : TypeId → Sem Value} (hf : ∀ κ', κ.le κ' → ∀ t, SR P VR κ' (f t) (f t)) (l : Array Value) : SR P VR κ (ReflectliteType.method f l) (ReflectliteType.method f l) := by
  unfold ReflectliteType.method
  obtain ⟨l⟩ := l
  match l with
  | [r] =>
    refine SR.bind' (sr_isq (q_ofRtype _)) ?_
    rintro κ1 t _ h1 rfl
    exact hf κ1 h1 t
  | [] => exact .halt
  | _ :: _ :: _ => exact .halt
theorem sr_relation {f : TypeId → TypeId → Sem Bool} (s : String) (hf : ∀ u t, isq P (f u t)) (l : Array Value) : SR P VR κ (ReflectliteType.relation s f l) (ReflectliteType.relation s f l) := by
  unfold ReflectliteType.relation
  obtain ⟨l⟩ := l
  match l with
  | [r, x] =>
    cases x with
    | nilIface => exact .triv (dies_panicString _)
    | iface t u =>
      refine SR.bind' (sr_isq (q_ofRtype _)) ?_
      rintro κ1 t _ h1 rfl
      refine SR.bind' (sr_isq (q_ofRtype _)) ?_
      rintro κ2 u _ h2 rfl
      refine SR.bind' (sr_isq (hf _ _)) ?_
      rintro κ3 b _ h3 rfl
      exact .pure (.bool b)
    | _ => exact .halt
  | [] => exact .halt
  | [_] => exact .halt
  | _ :: _ :: _ :: _ => exact .halt
theorem sr_abi {f : TypeId → Sem Value} (hf : ∀ κ', κ.le κ' → ∀ t, SR P VR κ' (f t) (f t)) (l : Array Value) : SR P VR κ (ReflectliteType.abiMethod f l) (ReflectliteType.abiMethod f l) := by
  unfold ReflectliteType.abiMethod
  obtain ⟨l⟩ := l
  match l with
  | [r] =>
    refine SR.bind' (sr_isq (q_ofHandle _)) ?_
    rintro κ1 t _ h1 rfl
    refine SR.bind' (sr_isq (q_noPack _ _)) ?_
    rintro κ2 _ _ h2 _
    exact hf κ2 (K.le_trans h1 h2) t
  | [] => exact .halt
  | _ :: _ :: _ => exact .halt
theorem sr_typeOf (hk : KGs P.globals.size κ) (t : TypeId) (v v' : Value) : SR P VR κ (ReflectliteType.typeOf #[.iface t v]) (ReflectliteType.typeOf #[.iface t v']) := sr_toType hk t
theorem sr_mk (hk : KGs P.globals.size κ) (t : TypeId) {a a' : Addr} (ha : AddrR κ a a') (fl : Nat) : SR P VR κ (ReflectliteValue.mk t a fl) (ReflectliteValue.mk t a' fl) := by
  unfold ReflectliteValue.mk
  refine SR.bind' (sr_handle hk t) fun κ1 v v' h1 hv => ?_
  refine SR.bind' (sr_isq (q_kind t)) ?_
  rintro κ2 k _ h2 rfl
  exact .pure (.agg (.cons (hv.mono h2) (.cons (.ptr ((ha.mono h1).mono h2)) (.cons (.int _ _) .nil))))
theorem sr_unpack (hk : KGs P.globals.size κ) {v v' : Value} (hv : VR κ v v') : SR P VR κ (ReflectliteValue.unpack v) (ReflectliteValue.unpack v') := by
  cases hv <;> first
    | exact .halt
    | skip
  · rename_i t v v' hv
    refine SR.bind' (sr_newVar t hv) fun κ1 a a' h1 ha => ?_
    exact sr_mk (hk.mono h1) t ha 0
  · exact .pure (.agg (.cons .ptrNil (.cons .ptrNil (.cons (.int _ _) .nil))))
theorem dies_valueError {α : Type} (m : String) (k : Nat) : ∀ h, arun P (ReflectliteValue.valueError m k : Sem α) h = none := by
  unfold ReflectliteValue.valueError
  exact dies_right fun _ => dies_right fun _ => dies_right fun _ => fun _ => rfl
/-- What stands in a reflected value. -/
def PartR (κ : K) : Option (TypeId × Addr × Nat) → Option (TypeId × Addr × Nat) → Prop
  | none, none => True
  | some (t, a, f), some (t', a', f') => t' = t ∧ f' = f ∧ AddrR κ a a'
  | _, _ => False
theorem sr_partsAny {hd : Value} {a a' : Addr} (ha : AddrR κ a a') (f : Int) (hf : f ≠ 0) :
    SR P PartR κ (ReflectliteValue.partsAny (.agg #[hd, .pointer (some a), .int .u64 f])) (ReflectliteValue.partsAny (.agg #[hd, .pointer (some a'), .int .u64 f])) := by
  have e : ∀ a : Addr, ReflectliteValue.partsAny (.agg #[hd, .pointer (some a), .int .u64 f]) = (do pure (some (← ofHandle hd, a, f.toNat))) := fun a => by
    match f, hf with
    | .ofNat 0, h => exact absurd rfl h
    | .ofNat (n + 1), _ => rfl
    | .negSucc n, _ => rfl
  rw [e, e]
  refine SR.bind' (sr_isq (q_ofHandle hd)) ?_
  rintro κ1 t _ h1 rfl
  exact .pure ⟨rfl, rfl, ha.mono h1⟩
theorem sr_parts {hd : Value} {a a' : Addr} (ha : AddrR κ a a') (f : Int) (hf : f ≠ 0) :
    SR P PartR κ (ReflectliteValue.parts (.agg #[hd, .pointer (some a), .int .u64 f])) (ReflectliteValue.parts (.agg #[hd, .pointer (some a'), .int .u64 f])) := by
  unfold ReflectliteValue.parts
  refine SR.bind' (sr_partsAny ha f hf) fun κ1 x x' h1 hx => ?_
  match x, x', hx with
  | none, none, _ => exact .pure trivial
  | some (t, b, g), some (t', b', g'), hx =>
    obtain ⟨rfl, rfl, hb⟩ := hx
    refine SR.bind' (sr_isq (q_noPack _ _)) ?_
    rintro κ2 _ _ h2 _
    exact .pure ⟨rfl, rfl, hb.mono h2⟩
theorem sr_vmethod {z : Sem Value} (hz : ∀ h, arun P z h = none) {f : TypeId → Addr → Nat → Nat → Sem Value} (hf : ∀ κ', κ.le κ' → ∀ t a a' x y, AddrR κ' a a' → SR P VR κ' (f t a x y) (f t a' x y)) {hd : Value} {a a' : Addr} (ha : AddrR κ a a') (fl : Int) (hfl : fl ≠ 0) :
    SR P VR κ (ReflectliteValue.method z f #[.agg #[hd, .pointer (some a), .int .u64 fl]]) (ReflectliteValue.method z f #[.agg #[hd, .pointer (some a'), .int .u64 fl]]) := by
  unfold ReflectliteValue.method
  refine SR.bind' (sr_parts ha fl hfl) fun κ1 x x' h1 hx => ?_
  match x, x', hx with
  | none, none, _ => exact .triv hz
  | some (t, b, g), some (t', b', g'), hx =>
    obtain ⟨rfl, rfl, hb⟩ := hx
    exact hf κ1 h1 _ _ _ _ _ hb
theorem sr_vmethodAny {z : Sem Value} (hz : ∀ h, arun P z h = none) {f : TypeId → Addr → Nat → Nat → Sem Value} (hf : ∀ κ', κ.le κ' → ∀ t a a' x y, AddrR κ' a a' → SR P VR κ' (f t a x y) (f t a' x y)) {hd : Value} {a a' : Addr} (ha : AddrR κ a a') (fl : Int) (hfl : fl ≠ 0) :
    SR P VR κ (ReflectliteValue.methodAny z f #[.agg #[hd, .pointer (some a), .int .u64 fl]]) (ReflectliteValue.methodAny z f #[.agg #[hd, .pointer (some a'), .int .u64 fl]]) := by
  unfold ReflectliteValue.methodAny
  refine SR.bind' (sr_partsAny ha fl hfl) fun κ1 x x' h1 hx => ?_
  match x, x', hx with
  | none, none, _ => exact .triv hz
  | some (t, b, g), some (t', b', g'), hx =>
    obtain ⟨rfl, rfl, hb⟩ := hx
    exact hf κ1 h1 _ _ _ _ _ hb
theorem sr_isNil (t : TypeId) {a a' : Addr} (ha : AddrR κ a a') (x k : Nat) : SR P VR κ (ReflectliteValue.isNil t a x k) (ReflectliteValue.isNil t a' x k) := by
  unfold ReflectliteValue.isNil
  have tail : SR P VR κ (do
      match ← loadVar t a with
      | .chan none | .nilFunc | .nilIface | .map none | .pointer none | .slice none _ _ => pure (.bool true)
      | _ => pure (.bool false)) (do
      match ← loadVar t a' with
      | .chan none | .nilFunc | .nilIface | .map none | .pointer none | .slice none _ _ => pure (.bool true)
      | _ => pure (.bool false)) := by
    refine SR.bind' (sr_loadVar t ha) fun κ1 v v' h1 hv => ?_
    cases hv <;> exact .pure (.bool _)
  split
  · exact .triv (dies_left (dies_valueError _ _))
  · exact tail
theorem sr_velem (hk : KGs P.globals.size κ) (t : TypeId) {a a' : Addr} (ha : AddrR κ a a') (x k : Nat) : SR P VR κ (ReflectliteValue.elem t a x k) (ReflectliteValue.elem t a' x k) := by
  unfold ReflectliteValue.elem
  have tail : SR P VR κ (do
      match k, ← loadVar t a, ← elem? t with
      | 20, i, _ => ReflectliteValue.unpack i
      | 22, .pointer none, _ => pure ReflectliteValue.zeroV
      | 22, .pointer (some p), some e => ReflectliteValue.mk e p ReflectliteValue.flagAddr
      | _, _, _ => ReflectliteValue.valueError "reflectlite.Value.Elem" k) (do
      match k, ← loadVar t a', ← elem? t with
      | 20, i, _ => ReflectliteValue.unpack i
      | 22, .pointer none, _ => pure ReflectliteValue.zeroV
      | 22, .pointer (some p), some e => ReflectliteValue.mk e p ReflectliteValue.flagAddr
      | _, _, _ => ReflectliteValue.valueError "reflectlite.Value.Elem" k) := by
    refine SR.bind' (sr_loadVar t ha) fun κ1 v v' h1 hv => ?_
    refine SR.bind' (sr_isq (q_elem t)) ?_
    rintro κ2 o _ h2 rfl
    have hk2 := (hk.mono h1).mono h2
    by_cases e1 : k = 20
    · subst e1
      exact sr_unpack hk2 (hv.mono h2)
    · by_cases e2 : k = 22
      · subst e2
        cases hv <;> first
          | exact .triv (dies_valueError _ _)
          | skip
        · exact .pure (.agg (.cons .ptrNil (.cons .ptrNil (.cons (.int _ _) .nil))))
        · rename_i ha2
          cases o with
          | none => exact .triv (dies_valueError _ _)
          | some e => exact sr_mk hk2 e (ha2.mono h2) _
      · refine .triv ?_
        split
        · exact absurd rfl e1
        · exact absurd rfl e2
        · exact absurd rfl e2
        · exact dies_valueError _ _
  split
  · exact .triv (dies_left (dies_valueError _ _))
  · exact tail
theorem sr_set {hd hd' : Value} {a a' b b' : Addr} (ha : AddrR κ a a') (hb : AddrR κ b b') (f g : Int) (hf : f ≠ 0) (hg : g ≠ 0) :
    SR P VR κ (ReflectliteValue.set #[.agg #[hd, .pointer (some a), .int .u64 f], .agg #[hd', .pointer (some b), .int .u64 g]]) (ReflectliteValue.set #[.agg #[hd, .pointer (some a'), .int .u64 f], .agg #[hd', .pointer (some b'), .int .u64 g]]) := by
  unfold ReflectliteValue.set
  refine SR.bind' (sr_parts ha f hf) fun κ1 x x' h1 hx => ?_
  refine SR.bind' (sr_parts (hb.mono h1) g hg) fun κ2 y y' h2 hy => ?_
  match x, x', hx, y, y', hy with
  | none, none, _, _, _, _ => exact .triv fun _ => rfl
  | some _, some _, _, none, none, _ => exact .triv fun _ => rfl
  | some (t, p, m), some (t', p', m'), hx, some (u, q, n), some (u', q', n'), hy =>
    obtain ⟨rfl, rfl, hp⟩ := hx
    obtain ⟨rfl, rfl, hq⟩ := hy
    have hp := hp.mono h2
    try dsimp only
    have tail : SR P VR κ2 (do
        let val ← loadVar u' q
        if ← directlyAssignable t' u' then storeVar t' p val
        else if ← implements t' u' then
          if (← kind u') == 20 then
            match val with
            | .nilIface => unsupported (.noEntry "extern/reflectlite: a nil value of one interface type handed on as a value of another")
            | _ => storeVar t' p val
          else storeVar t' p (.iface u' val)
        else panicString ("reflectlite.Set: value of type " ++ (← spelt u') ++ " is not assignable to type " ++ (← spelt t'))
        pure (.tuple #[])) (do
        let val ← loadVar u' q'
        if ← directlyAssignable t' u' then storeVar t' p' val
        else if ← implements t' u' then
          if (← kind u') == 20 then
            match val with
            | .nilIface => unsupported (.noEntry "extern/reflectlite: a nil value of one interface type handed on as a value of another")
            | _ => storeVar t' p' val
          else storeVar t' p' (.iface u' val)
        else panicString ("reflectlite.Set: value of type " ++ (← spelt u') ++ " is not assignable to type " ++ (← spelt t'))
        pure (.tuple #[])) := by
      refine SR.bind' (sr_loadVar u' hq) fun κ3 v v' h3 hv => ?_
      refine SR.bind' (sr_isq (q_directly t' u')) ?_
      rintro κ4 c _ h4 rfl
      have hp4 := (hp.mono h3).mono h4
      have hv4 := hv.mono h4
      have fin : ∀ {κ5 : K} {s s' : Sem Unit}, SR P EqR κ5 s s' → SR P VR κ5 (do s; pure (Value.tuple #[])) (do s'; pure (Value.tuple #[])) := fun h => SR.bind' h fun _ _ _ _ _ => .pure (VR.flat _ rfl)
      cases c with
      | true => exact fin (sr_storeVar t' hp4 hv4)
      | false =>
        simp only [Bool.false_eq_true, if_false]
        refine SR.bind' (sr_isq (q_implements t' u')) ?_
        rintro κ5 d _ h5 rfl
        cases d with
        | false => exact .triv (dies_right fun _ => dies_right fun _ => dies_left (dies_panicString _))
        | true =>
          simp only [if_true]
          refine SR.bind' (sr_isq (q_kind u')) ?_
          rintro κ6 k _ h6 rfl
          have hp6 := (hp4.mono h5).mono h6
          have hv6 := (hv4.mono h5).mono h6
          split
          · generalize hvv : v = z at hv6
            cases hv6 with
            | nilIface => exact .triv fun _ => rfl
            | _ => exact fin (sr_storeVar t' hp6 (by first | (rename_i h; exact .ptr h) | constructor <;> assumption | constructor))
          · exact fin (sr_storeVar t' hp6 (.iface hv6))
    split
    · exact .triv fun _ => rfl
    · exact tail
end
end Go.Ev
namespace Go.Ev
open Go Go.Extern.Rtype Go.Extern
section
variable {P : Program} {gl : Nat}

/-! ### interfaces held against one another -/

theorem sr_equalIn_ptr {κ : K} (d : Nat) (t : TypeId) (ht : ∃ e, P.underlying t = some (.pointer e)) {a b a' b' : Addr} (ha : AddrR κ a a') (hb : AddrR κ b b') :
    SR P EqR κ (Op.equalIn (d + 1) t (.pointer (some a)) (.pointer (some b))) (Op.equalIn (d + 1) t (.pointer (some a')) (.pointer (some b'))) := by
  unfold Op.equalIn
  refine SR.bind' (sr_underlying' t) ?_
  rintro κ1 d _ hk ⟨rfl, hd⟩
  obtain ⟨e, he⟩ := ht
  rw [hd] at he
  cases he
  dsimp only
  refine SR.bind' (sr_sizeOf e) ?_
  rintro κ2 n _ hk2 rfl
  split
  · exact sr_sameAddr ((ha.mono hk).mono hk2) ((hb.mono hk).mono hk2)
  · by_cases hab : a = b
    · subst hab
      have : a' = b' := by
        obtain ⟨_, x, hx, rfl⟩ := ha
        obtain ⟨_, y, hy, rfl⟩ := hb
        rw [hx] at hy; cases hy; rfl
      subst this
      simp only [beq_self_eq_true, if_true]
      exact .pure rfl
    · have : (a == b) = false := by simpa using hab
      rw [this]
      simp only [Bool.false_eq_true, if_false]
      exact .triv fun _ => rfl
/-- Two interface values of different types, or of one type of pointers. -/
def ifaceEqB (P : Program) (x y : Value) : Bool := match x, y with
  | .iface u p, .iface u' p' => !(Nat.beq u u') || (match p, p', P.underlying u with
    | .pointer (some _), .pointer (some _), some (.pointer _) => true
    | _, _, _ => false)
  | _, _ => false
theorem sr_equal_iface {κ : K} (t : TypeId) {x y x' y' : Value} (hx : VR κ x x') (hy : VR κ y y') (hc : ifaceEqB P x y = true) : SR P EqR κ (Op.equal t x y) (Op.equal t x' y') := by
  unfold ifaceEqB at hc
  split at hc
  · rename_i u p u' p'
    cases hx with
    | iface hp =>
      cases hy with
      | iface hp' =>
        rename_i q q'
        obtain ⟨d, hd⟩ : ∃ d, Op.maxDepth = d + 1 + 1 := ⟨9998, rfl⟩
        unfold Op.equal
        rw [hd]
        generalize hd1 : d + 1 = d1
        unfold Op.equalIn
        refine SR.bind' (sr_underlying t) ?_
        rintro κ1 de _ hk rfl
        cases de <;> first
          | exact .halt
          | skip
        rename_i ms
        try dsimp only
        by_cases hu : u = u'
        · subst hu
          simp only [Nat.beq_refl, Bool.not_true, Bool.false_or] at hc
          split at hc
          · rename_i a b e hpt
            simp only [ne_eq, not_true_eq_false, if_false]
            refine SR.bind' (sr_typeInfo u) ?_
            rintro κ2 inf _ hk2 rfl
            cases hcomp : inf.comparable with
            | false =>
              simp only [Bool.not_false, if_true]
              exact .triv (dies_right fun p => dies_right fun q => by
                split
                · exact fun _ => rfl
                · exact dies_right fun _ => dies_runtimePanic _)
            | true =>
              simp only [Bool.not_true, Bool.false_eq_true, if_false]
              rw [← hd1]
              cases (hp.mono hk).mono hk2 with
              | ptr h1 =>
                cases (hp'.mono hk).mono hk2 with
                | ptr h2 => exact sr_equalIn_ptr d u ⟨e, hpt⟩ h1 h2
          · cases hc
        · simp only [ne_eq, hu, not_false_eq_true, if_true]
          exact .pure rfl
  · cases hc
theorem eqGuard_iface (op : BinOp) (t : TypeId) (x y : Operand) {a b : Value} (h : ifaceEqB P a b = true) : eqGuard op t x y a b = pure () := by
  unfold ifaceEqB at h
  split at h
  · unfold eqGuard
    cases op <;> rfl
  · cases h
theorem ifaceEqB_rel {κ : K} {x y x' y' : Value} (hx : VR κ x x') (hy : VR κ y y') (h : ifaceEqB P x y = true) : ifaceEqB P x' y' = true := by
  unfold ifaceEqB at h
  split at h
  · cases hx with
    | iface hp => cases hy with
      | iface hp' =>
        unfold ifaceEqB
        rw [Bool.or_eq_true] at h ⊢
        rcases h with h | h
        · exact .inl h
        · right
          split at h
          · rename_i hpt
            cases hp with
            | ptr h1 => cases hp' with
              | ptr h2 => rw [hpt]
          · cases h
  · cases h
theorem binOp_iface_eql (t : TypeId) {x y : Value} (h : ifaceEqB P x y = true) : binOp .eql t x y = (do pure (.bool (← Op.equal t x y))) := by
  unfold ifaceEqB at h
  split at h
  · rfl
  · cases h
theorem binOp_iface_neq (t : TypeId) {x y : Value} (h : ifaceEqB P x y = true) : binOp .neq t x y = (do pure (.bool (!(← Op.equal t x y)))) := by
  unfold ifaceEqB at h
  split at h
  · rfl
  · cases h
theorem sr_binOp_iface {κ : K} (op : BinOp) (hop : isEq op = true) (t : TypeId) (x y : Operand) {a b a' b' : Value} (ha : VR κ a a') (hb : VR κ b b') (hc : ifaceEqB P a b = true) :
    SR P VR κ (do eqGuard op t x y a b; binOp op t a b) (do eqGuard op t x y a' b'; binOp op t a' b') := by
  have hc' := ifaceEqB_rel ha hb hc
  rw [eqGuard_iface op t x y hc, eqGuard_iface op t x y hc']
  show SR P VR κ (binOp op t a b) (binOp op t a' b')
  cases op <;> first
    | (cases hop; done)
    | skip
  · rw [binOp_iface_eql t hc, binOp_iface_eql t hc']
    refine SR.bind' (sr_equal_iface t ha hb hc) ?_
    rintro κ1 c _ _ rfl
    exact .pure (.bool c)
  · rw [binOp_iface_neq t hc, binOp_iface_neq t hc']
    refine SR.bind' (sr_equal_iface t ha hb hc) ?_
    rintro κ1 c _ _ rfl
    exact .pure (.bool _)
def ifaceEqA (P : Program) (f : Fr) (o : Oper) (op : BinOp) (x y : Operand) (h : AH) : Option (Value × AH) :=
  cond (isEq op && ifaceEqB P (f.eval x) (f.eval y)) (match arun P (execOp f.eval o) h with
    | some (.value v, h1) => some (v, h1)
    | _ => none) none
/-- From a program of one shape to an operation. -/
theorem opAt_sr {f : Fr} {o : Oper} {h : AH} {v : Value} {h' : AH} {α β : Type} {R : K → α → β → Prop} {s : Sem α} {y : α} (e : arun P s h = some (y, h')) (wf : WF h)
    (hs : ∀ (κ : K) (a : Act) (w : World), KG gl κ → (∀ x ∈ o.op.operands, VR κ (f.eval x) (a.eval x)) → ∃ s' : Sem β, SR P R κ s s' ∧ ∀ κ' z w1, s'.run P w = .ok z w1 → R κ' y z → ∃ v', VR κ' v v' ∧ (execOp a.eval o).run P w = .ok (.value v') w1) : OpAt P gl f o h v h' := by
  have x1 := arun_ext P _ _ _ _ e wf
  refine ⟨x1, fun κ G a w K' Q hg hrel hag hfs hρ hk => ?_⟩
  obtain ⟨s', h1, h2⟩ := hs κ a w hg hρ
  obtain ⟨κ', z, w', q1, q2, q3, q4⟩ := run_sim h1 _ _ _ e wf G w hrel hag hfs
  obtain ⟨v', hv, hrun⟩ := h2 κ' z w' q1 q2
  exact wp_of_gives (.inl hrun) (hk κ' v' w' hv q3 q4)
theorem ifaceEqA_sound {f : Fr} {o : Oper} {op : BinOp} {t yt : TypeId} {x y : Operand} (ho : o.op = .binOp op t x y yt) {h : AH} {v : Value} {h' : AH} (e : ifaceEqA P f o op x y h = some (v, h')) (wf : WF h) : OpAt P gl f o h v h' := by
  unfold ifaceEqA at e
  cases hc : (isEq op && ifaceEqB P (f.eval x) (f.eval y)) with
  | false => rw [hc] at e; cases e
  | true =>
    rw [hc] at e
    simp only [Bool.and_eq_true] at hc
    simp only [cond_true] at e
    split at e
    · rename_i v1 h1 he
      cases e
      refine opAt_sr (R := NextR) he wf fun κ a w _ hρ => ⟨execOp a.eval o, ?_, fun κ' z w1 hr hn => ?_⟩
      · have hx := hρ x (by rw [ho]; simp [Op.operands])
        have hy := hρ y (by rw [ho]; simp [Op.operands])
        have : ∀ ρ : Operand → Value, execOp ρ o = (do pure (Next.value (← (do eqGuard op t x y (ρ x) (ρ y); binOp op t (ρ x) (ρ y))))) := fun ρ => by
          unfold execOp; rw [ho]
        rw [this, this]
        exact sr_v (sr_binOp_iface op hc.1 t x y hx hy hc.2)
      · cases hn with
        | value hv => exact ⟨_, hv, hr⟩
    · cases e

/-! ### calls of functions without a body -/

def bodyless (P : Program) (g : FuncId) : Option Func := match P.funcs[g]? with
  | none => none
  | some fn => cond (fn.body.isNone && (!(fn.name == "runtime.NumGoroutine") && (Extern.findNext fn).isNone)) (some fn) none
def calleeX (P : Program) (ρ : Operand → Value) (c : Call) : Option (FuncId × List Value) :=
  match c.callee with
  | .builtin _ => none
  | .invoke recv name => match ρ recv with
    | .iface t v => match methodDirect P t name with
      | some g => some (g, v :: c.args.toList.map ρ)
      | none => cond (fixV P.globals.size v) (match freeOut (arun P (method (P.types.size + Made.depth) t v name) ⟨.nil, 0, 0, 0⟩) with
        | some (g, v1) => cond (fixV P.globals.size v1) (some (g, v1 :: c.args.toList.map ρ)) none
        | none => none) none
    | _ => none
  | .value x => match ρ x with
    | .func (.func g) ⟨first⟩ ⟨captured⟩ => some (g, first ++ c.args.toList.map ρ ++ captured)
    | _ => none
theorem calleeX_sound {f : Fr} {o : Oper} {c : Call} (ho : o.op = .call c) {g : FuncId} {args : List Value} (e : calleeX P f.eval c = some (g, args)) {κ : K} (hk : KGs P.globals.size κ) {a : Act} (hρ : ∀ x ∈ o.op.operands, VR κ (f.eval x) (a.eval x)) (w : World) :
    ∃ args' : Array Value, VL κ args args'.toList ∧ ∀ nx w1, (callFunc g args').run P w = .ok nx w1 → (execOp a.eval o).run P w = .ok nx w1 := by
  have hargs : VL κ (c.args.toList.map f.eval) (c.args.toList.map a.eval) := vl_map fun x hx => hρ x (by rw [ho]; simp [Op.operands, Call.operands]; exact Or.inr (by simpa using hx))
  have e0 : ∀ (t : TypeId) (v' : Value) (l : Array Value), ((#[Value.iface t v'] : Array Value) ++ l)[0]? = some (Value.iface t v') := fun t v' l => by rw [Array.getElem?_append_left (by simp)]; rfl
  have e1 : (c.args.map a.eval).extract 0 c.args.size = c.args.map a.eval := by rw [show c.args.size = (c.args.map a.eval).size by simp]; exact Array.extract_size
  unfold calleeX at e
  split at e
  · cases e
  · rename_i recv name hc
    have hr : VR κ (f.eval recv) (a.eval recv) := hρ recv (by rw [ho]; simp [Op.operands, Call.operands, hc])
    split at e
    · rename_i t v hv
      rw [hv] at hr
      generalize hv' : a.eval recv = rv' at hr
      cases hr with
      | iface hvr =>
        rename_i v'
        split at e
        · rename_i g' hm
          cases e
          refine ⟨#[v'] ++ c.args.map a.eval, by simpa using VL.cons hvr hargs, fun nx w1 h1 => ?_⟩
          have hd : ∀ n, (method (n + 1) t v' name).run P w = .ok (g, v') w := fun n => run_method hm n v' w
          have hpos : 0 < Made.depth := by decide
          obtain ⟨n, hn⟩ : ∃ n, P.types.size + Made.depth = n + 1 := ⟨P.types.size + Made.depth - 1, by omega⟩
          simp [execOp, ho, resolve, hc, invoke, callMethod, hv', e0, e1, hn, hd, h1]
        · cases hfx : fixV P.globals.size v with
          | false => rw [hfx] at e; cases e
          | true =>
            rw [hfx] at e
            simp only [cond_true] at e
            split at e
            · rename_i g' v1 hfree
              cases hf1 : fixV P.globals.size v1 with
              | false => rw [hf1] at e; cases e
              | true =>
                rw [hf1] at e
                cases e
                obtain rfl := fix_eq hk v hfx hvr
                have hd := freeOut_run hfree w
                have hs1 : VR κ v1 v1 := by
                  have : ∀ v : Value, fixV P.globals.size v = true → VR κ v v := fix_self hk
                  exact this v1 hf1
                refine ⟨#[v1] ++ c.args.map a.eval, by simpa using VL.cons hs1 hargs, fun nx w1 h1 => ?_⟩
                simp [execOp, ho, resolve, hc, invoke, callMethod, hv', e0, e1, hd, h1]
            · cases e
    · cases e
  · rename_i x hc
    have hr : VR κ (f.eval x) (a.eval x) := hρ x (by rw [ho]; simp [Op.operands, Call.operands, hc])
    split at e
    · rename_i g' first captured hv
      cases e
      rw [hv] at hr
      generalize hv' : a.eval x = rv' at hr
      cases hr with
      | func hfn h1 h2 =>
        rename_i first' captured'
        refine ⟨⟨first'⟩ ++ c.args.map a.eval ++ ⟨captured'⟩, by simpa using (h1.append hargs).append h2, fun nx w1 h1 => ?_⟩
        rw [Array.append_assoc] at h1
        simp [execOp, ho, resolve, hc, hv', Deferred.ofValue, invoke, h1]
    · cases e
theorem run_callExt {g : FuncId} {fn : Func} (hb : bodyless P g = some fn) {ext : Array Value → Sem Value} (hx : Extern.find fn = some ext) {args : Array Value} {w w1 : World} {v : Value} (h : (ext args).run P w = .ok v w1) : (callFunc g args).run P w = .ok (.value v) w1 := by
  unfold bodyless at hb
  split at hb
  · cases hb
  · rename_i fn' hfn
    cases hq : (fn'.body.isNone && (!(fn'.name == "runtime.NumGoroutine") && (Extern.findNext fn').isNone)) with
    | false => rw [hq] at hb; cases hb
    | true =>
      rw [hq] at hb
      cases hb
      simp only [Bool.and_eq_true, Bool.not_eq_true', Option.isNone_iff_eq_none] at hq
      obtain ⟨h1, h2, h3⟩ := hq
      have h2' : ¬ fn.name = "runtime.NumGoroutine" := by simpa using h2
      simp [callFunc, hfn, h2', h1, h3, hx, h]
/-- The functions without a body that are told here, and of what arguments. -/
def extSem (gs : Nat) (n : String) (args : List Value) : Option (Array Value → Sem Value) :=
  cond (n == "internal/reflectlite.TypeOf") (match args with
    | [.iface _ _] => some ReflectliteType.typeOf
    | _ => none) <|
  cond (n == "internal/reflectlite.ValueOf") (match args with
    | [.iface _ _] => some fun args => ReflectliteValue.unpack (args.getD 0 (.tuple #[]))
    | _ => none) <|
  cond (n == "(internal/reflectlite.rtype).Elem") (cond (fixL gs args) (some (ReflectliteType.method ReflectliteType.elem)) none) <|
  cond (n == "(internal/reflectlite.rtype).Comparable") (cond (fixL gs args) (some (ReflectliteType.method fun t => do noPackHeld "Comparable" t; pure (.bool (← typeInfo t).comparable))) none) <|
  cond (n == "(internal/reflectlite.rtype).Implements") (cond (fixL gs args) (some (ReflectliteType.relation "Implements" ReflectliteType.implements_)) none) <|
  cond (n == "(internal/reflectlite.rtype).AssignableTo") (cond (fixL gs args) (some (ReflectliteType.relation "AssignableTo" ReflectliteType.assignableTo)) none) <|
  cond (n == "(*internal/abi.Type).Kind") (cond (fixL gs args) (some (ReflectliteType.abiMethod fun t => do pure (.int .u8 (← kind t)))) none) <|
  cond (n == "(internal/reflectlite.Value).Type") (match args with
    | [.agg ⟨[hd, .pointer (some _), .int .u64 f]⟩] => cond (fixV gs hd && !decide (f = 0)) (some (ReflectliteValue.methodAny (ReflectliteValue.valueError "reflectlite.Value.Type" 0) fun t _ _ _ => ReflectliteType.toType t)) none
    | _ => none) <|
  cond (n == "(internal/reflectlite.Value).IsNil") (match args with
    | [.agg ⟨[hd, .pointer (some _), .int .u64 f]⟩] => cond (fixV gs hd && !decide (f = 0)) (some (ReflectliteValue.method (ReflectliteValue.valueError "reflectlite.Value.IsNil" 0) ReflectliteValue.isNil)) none
    | _ => none) <|
  cond (n == "(internal/reflectlite.Value).Elem") (match args with
    | [.agg ⟨[hd, .pointer (some _), .int .u64 f]⟩] => cond (fixV gs hd && !decide (f = 0)) (some (ReflectliteValue.method (ReflectliteValue.valueError "reflectlite.Value.Elem" 0) ReflectliteValue.elem)) none
    | _ => none) <|
  cond (n == "(internal/reflectlite.Value).Set") (match args with
    | [.agg ⟨[hd, .pointer (some _), .int .u64 f]⟩, .agg ⟨[hd', .pointer (some _), .int .u64 g]⟩] => cond ((fixV gs hd && !decide (f = 0)) && (fixV gs hd' && !decide (g = 0))) (some ReflectliteValue.set) none
    | _ => none) none
theorem cond_some {α : Type} {b : Bool} {x y : Option α} {z : α} (h : cond b x y = some z) : (b = true ∧ x = some z) ∨ (b = false ∧ y = some z) := by
  cases b
  · exact .inr ⟨rfl, h⟩
  · exact .inl ⟨rfl, h⟩
theorem cond_some' {α : Type} {b : Bool} {x : Option α} {z : α} (h : cond b x none = some z) : b = true ∧ x = some z := by
  cases b
  · cases h
  · exact ⟨rfl, h⟩
theorem sr_fixed {κ : K} (hk : KGs P.globals.size κ) {ext : Array Value → Sem Value} {args : List Value} (hf : fixL P.globals.size args = true) (h : ∀ l, SR P VR κ (ext l) (ext l)) {args' : Array Value} (hv : VL κ args args'.toList) : SR P VR κ (ext ⟨args⟩) (ext args') := by
  have := fixL_eq hk args hf hv
  have e : args' = ⟨args⟩ := by rw [← Array.toList_inj, this]
  rw [e]
  exact h _
theorem one_part {κ : K} (hk : KGs P.globals.size κ) {hd : Value} {a : Addr} {f : Int} (hf : fixV P.globals.size hd = true) {v' : Value} (hv : VR κ (.agg ⟨[hd, .pointer (some a), .int .u64 f]⟩) v') : ∃ a', v' = .agg #[hd, .pointer (some a'), .int .u64 f] ∧ AddrR κ a a' := by
  cases hv with
  | agg hl =>
    cases hl with
    | cons h1 h2 =>
      cases h2 with
      | cons h3 h4 =>
        cases h4 with
        | cons h5 h6 =>
          cases h6
          cases h5
          obtain rfl := fix_eq hk hd hf h1
          cases h3 with
          | ptr ha => exact ⟨_, rfl, ha⟩
theorem vl_one {κ : K} {v : Value} {l : Array Value} (h : VL κ [v] l.toList) : ∃ v', l = #[v'] ∧ VR κ v v' := by
  obtain ⟨l⟩ := l
  cases h with
  | cons h1 h2 => cases h2; exact ⟨_, rfl, h1⟩
theorem vl_two {κ : K} {u v : Value} {l : Array Value} (h : VL κ [u, v] l.toList) : ∃ u' v', l = #[u', v'] ∧ VR κ u u' ∧ VR κ v v' := by
  obtain ⟨l⟩ := l
  cases h with
  | cons h1 h2 => cases h2 with
    | cons h3 h4 => cases h4; exact ⟨_, _, rfl, h1, h3⟩
theorem ext_find {n : String} {args : List Value} {gs : Nat} {ext : Array Value → Sem Value} (e : extSem gs n args = some ext) {fn : Func} (hn : fn.name = n) : Extern.find fn = some ext := by
  have main : ∀ (m : String) (x : Array Value → Sem Value), (∀ fn : Func, fn.name = m → Extern.find fn = some x) → (n == m) = true → some x = some ext → Extern.find fn = some ext := fun m x h h1 h2 => by
    cases h2
    exact h fn (hn.trans (by simpa using h1))
  unfold extSem at e
  rcases cond_some e with ⟨h1, e⟩ | ⟨_, e⟩
  · refine main _ _ (fun fn h => ?_) h1 (by split at e <;> first | exact e | cases e)
    unfold Extern.find; rw [h]; rfl
  rcases cond_some e with ⟨h1, e⟩ | ⟨_, e⟩
  · refine main _ _ (fun fn h => ?_) h1 (by split at e <;> first | exact e | cases e)
    unfold Extern.find; rw [h]; rfl
  rcases cond_some e with ⟨h1, e⟩ | ⟨_, e⟩
  · refine main _ _ (fun fn h => ?_) h1 (cond_some' e).2
    unfold Extern.find; rw [h]; rfl
  rcases cond_some e with ⟨h1, e⟩ | ⟨_, e⟩
  · refine main _ _ (fun fn h => ?_) h1 (cond_some' e).2
    unfold Extern.find; rw [h]; rfl
  rcases cond_some e with ⟨h1, e⟩ | ⟨_, e⟩
  · refine main _ _ (fun fn h => ?_) h1 (cond_some' e).2
    unfold Extern.find; rw [h]; rfl
  rcases cond_some e with ⟨h1, e⟩ | ⟨_, e⟩
  · refine main _ _ (fun fn h => ?_) h1 (cond_some' e).2
    unfold Extern.find; rw [h]; rfl
  rcases cond_some e with ⟨h1, e⟩ | ⟨_, e⟩
  · refine main _ _ (fun fn h => ?_) h1 (cond_some' e).2
    unfold Extern.find; rw [h]; rfl
  rcases cond_some e with ⟨h1, e⟩ | ⟨_, e⟩
  · refine main _ _ (fun fn h => ?_) h1 (by split at e <;> first | exact (cond_some' e).2 | cases e)
    unfold Extern.find; rw [h]; rfl
  rcases cond_some e with ⟨h1, e⟩ | ⟨_, e⟩
  · refine main _ _ (fun fn h => ?_) h1 (by split at e <;> first | exact (cond_some' e).2 | cases e)
    unfold Extern.find; rw [h]; rfl
  rcases cond_some e with ⟨h1, e⟩ | ⟨_, e⟩
  · refine main _ _ (fun fn h => ?_) h1 (by split at e <;> first | exact (cond_some' e).2 | cases e)
    unfold Extern.find; rw [h]; rfl
  obtain ⟨h1, e⟩ := cond_some' e
  refine main _ _ (fun fn h => ?_) h1 (by split at e <;> first | exact (cond_some' e).2 | cases e)
  unfold Extern.find; rw [h]; rfl
theorem not_zero {f : Int} (h : (!decide (f = 0)) = true) : f ≠ 0 := by simpa using h
theorem ext_sr {κ : K} (hk : KGs P.globals.size κ) {n : String} {args : List Value} {ext : Array Value → Sem Value} (e : extSem P.globals.size n args = some ext) {args' : Array Value} (hv : VL κ args args'.toList) : SR P VR κ (ext ⟨args⟩) (ext args') := by
  unfold extSem at e
  rcases cond_some e with ⟨_, e⟩ | ⟨_, e⟩
  · split at e
    · cases e
      obtain ⟨v', rfl, h1⟩ := vl_one hv
      cases h1 with
      | iface h2 => exact sr_typeOf hk _ _ _
    · cases e
  rcases cond_some e with ⟨_, e⟩ | ⟨_, e⟩
  · split at e
    · cases e
      obtain ⟨v', rfl, h1⟩ := vl_one hv
      exact sr_unpack hk h1
    · cases e
  rcases cond_some e with ⟨_, e⟩ | ⟨_, e⟩
  · obtain ⟨hf, e⟩ := cond_some' e
    cases e
    exact sr_fixed hk hf (fun l => sr_method' (fun κ' h t => sr_elem (hk.mono h) t) l) hv
  rcases cond_some e with ⟨_, e⟩ | ⟨_, e⟩
  · obtain ⟨hf, e⟩ := cond_some' e
    cases e
    refine sr_fixed hk hf (fun l => sr_method' (fun κ' h t => ?_) l) hv
    refine SR.bind' (sr_isq (q_noPackHeld _ _)) ?_
    rintro κ1 _ _ _ _
    refine SR.bind' (sr_typeInfo t) ?_
    rintro κ2 i _ _ rfl
    exact .pure (.bool _)
  rcases cond_some e with ⟨_, e⟩ | ⟨_, e⟩
  · obtain ⟨hf, e⟩ := cond_some' e
    cases e
    exact sr_fixed hk hf (fun l => sr_relation _ q_implements_ l) hv
  rcases cond_some e with ⟨_, e⟩ | ⟨_, e⟩
  · obtain ⟨hf, e⟩ := cond_some' e
    cases e
    exact sr_fixed hk hf (fun l => sr_relation _ q_assignableTo l) hv
  rcases cond_some e with ⟨_, e⟩ | ⟨_, e⟩
  · obtain ⟨hf, e⟩ := cond_some' e
    cases e
    refine sr_fixed hk hf (fun l => sr_abi (fun κ' h t => ?_) l) hv
    refine SR.bind' (sr_isq (q_kind t)) ?_
    rintro κ1 i _ _ rfl
    exact .pure (.int _ _)
  rcases cond_some e with ⟨_, e⟩ | ⟨_, e⟩
  · split at e
    · obtain ⟨hc, e⟩ := cond_some' e
      cases e
      simp only [Bool.and_eq_true] at hc
      obtain ⟨v', rfl, h1⟩ := vl_one hv
      obtain ⟨a', rfl, ha⟩ := one_part hk hc.1 h1
      exact sr_vmethodAny (dies_valueError _ _) (fun κ' h t a a' x y _ => sr_toType (hk.mono h) t) ha _ (not_zero hc.2)
    · cases e
  rcases cond_some e with ⟨_, e⟩ | ⟨_, e⟩
  · split at e
    · obtain ⟨hc, e⟩ := cond_some' e
      cases e
      simp only [Bool.and_eq_true] at hc
      obtain ⟨v', rfl, h1⟩ := vl_one hv
      obtain ⟨a', rfl, ha⟩ := one_part hk hc.1 h1
      exact sr_vmethod (dies_valueError _ _) (fun κ' h t a a' x y ha => sr_isNil t ha x y) ha _ (not_zero hc.2)
    · cases e
  rcases cond_some e with ⟨_, e⟩ | ⟨_, e⟩
  · split at e
    · obtain ⟨hc, e⟩ := cond_some' e
      cases e
      simp only [Bool.and_eq_true] at hc
      obtain ⟨v', rfl, h1⟩ := vl_one hv
      obtain ⟨a', rfl, ha⟩ := one_part hk hc.1 h1
      exact sr_vmethod (dies_valueError _ _) (fun κ' h t a a' x y ha => sr_velem (hk.mono h) t ha x y) ha _ (not_zero hc.2)
    · cases e
  obtain ⟨_, e⟩ := cond_some' e
  split at e
  · obtain ⟨hc, e⟩ := cond_some' e
    cases e
    simp only [Bool.and_eq_true] at hc
    obtain ⟨u', v', rfl, h1, h2⟩ := vl_two hv
    obtain ⟨a', rfl, ha⟩ := one_part hk hc.1.1 h1
    obtain ⟨b', rfl, hb⟩ := one_part hk hc.2.1 h2
    exact sr_set ha hb _ _ (not_zero hc.1.2) (not_zero hc.2.2)
  · cases e
def extA (P : Program) (gl : Nat) (f : Fr) (c : Call) (h : AH) : Option (Value × AH) :=
  cond (Nat.blt P.globals.size gl) (match calleeX P f.eval c with
    | some (g, args) => match bodyless P g with
      | some fn => match extSem P.globals.size fn.name args with
        | some ext => arun P (ext ⟨args⟩) h
        | none => none
      | none => none
    | none => none) none
theorem extA_sound {f : Fr} {o : Oper} {c : Call} (ho : o.op = .call c) {h : AH} {v : Value} {h' : AH} (e : extA P gl f c h = some (v, h')) (wf : WF h) : OpAt P gl f o h v h' := by
  unfold extA at e
  obtain ⟨hlt, e⟩ := cond_some' e
  rw [Nat.blt_eq] at hlt
  split at e
  · rename_i g args hcal
    split at e
    · rename_i fn hb
      split at e
      · rename_i ext hext
        refine opAt_sr (R := VR) e wf fun κ a w hg hρ => ?_
        have hk : KGs P.globals.size κ := hg _ hlt
        obtain ⟨args', hvl, hrun⟩ := calleeX_sound ho hcal hk hρ w
        exact ⟨ext args', ext_sr hk hext hvl, fun κ' z w1 hr hv => ⟨z, hv, hrun _ _ (run_callExt hb (ext_find hext rfl) hr)⟩⟩
      · cases e
    · cases e
  · cases e
/-- All operations of their own. -/
def specialG (gl : Nat) (P : Program) : OpEv := fun f o h => match special P f o h with
  | some r => some r
  | none => match o.op with
    | .call c => extA P gl f c h
    | .binOp op _ x y _ => ifaceEqA P f o op x y h
    | _ => none
theorem specialG_sound : OpSound P gl (checked gl (specialG gl P)) := by
  refine checked_sound fun f o h v h' e wf => ?_
  unfold specialG at e
  split at e
  · rename_i r hr
    cases e
    exact special_at hr wf
  · split at e
    · rename_i c ho
      exact extA_sound ho e wf
    · rename_i op t x y yt ho
      exact ifaceEqA_sound ho e wf
    · cases e
end
end Go.Ev
namespace Go.Ev
open Go

def ZF (info : TypeId → Option TypeInfo) : Prop := ∀ t i z, info t = some i → i.zero = some z → flatV z = true

theorem flatL_append (l m : List Value) : flatL (l ++ m) = (flatL l && flatL m) := by
  induction l with
  | nil => simp [flatL]
  | cons x l ih => simp [flatL, ih, Bool.and_assoc]
theorem flat_cells {v : Value} (h : flatV v = true) : flatL v.cells.toList = true := by
  cases v <;> first
    | (simp only [Value.cells]; exact h)
    | (simp [Value.cells, flatL]; exact h)
theorem flatL_flatten {l : List (Array Value)} (h : ∀ x ∈ l, flatL x.toList = true) : flatL (l.map Array.toList).flatten = true := by
  induction l with
  | nil => rfl
  | cons x l ih =>
    simp only [List.map_cons, List.flatten_cons, flatL_append, Bool.and_eq_true]
    exact ⟨h x (by simp), ih fun y hy => h y (by simp [hy])⟩

theorem forIn_inv {α σ : Type} (I : σ → Prop) {f : α → σ → Option (ForInStep σ)} (hstep : ∀ a s st, I s → f a s = some st → I st.value) : ∀ (xs : List α) (init r : σ), I init → forIn xs init f = some r → I r
  | [], init, r, h, e => by
    simp only [List.forIn_nil] at e
    cases e; exact h
  | x :: xs, init, r, h, e => by
    simp only [List.forIn_cons] at e
    cases hx : f x init with
    | none => rw [hx] at e; cases e
    | some st =>
      rw [hx] at e
      have hs := hstep _ _ _ h hx
      cases st with
      | done s => cases e; exact hs
      | yield s => exact forIn_inv I hstep xs s r hs e

theorem struct_flat {info : TypeId → Option TypeInfo} (hi : ZF info) {fs : Array Field} {i : TypeInfo} {z : Value} (h : Made.reckonStruct info fs = some i) (hz : i.zero = some z) : flatV z = true := by
  unfold Made.reckonStruct at h
  simp only [Option.pure_def, Option.bind_eq_bind, ← Array.forIn_toList, Option.bind_eq_some_iff] at h
  obtain ⟨s, hs, hr⟩ := h
  have zlem : ∀ (c : Prop) [Decidable c] (x : Option (Array Value)) (j : TypeInfo) (t : TypeId) (a : Array Value), info t = some j → (∀ a, x = some a → flatL a.toList = true) →
      (if c then none else x.bind fun u => j.zero.bind fun v => some (u ++ v.cells)) = some a → flatL a.toList = true := by
    intro c _ x j t a hj hx ha
    split at ha
    · cases ha
    · simp only [Option.bind_eq_some_iff, Option.some.injEq] at ha
      obtain ⟨u, hu, v, hv, rfl⟩ := ha
      rw [Array.toList_append, flatL_append, hx u hu, flat_cells (hi t j v hj hv)]
      rfl
  have hI := forIn_inv (fun s => ∀ a, s.2.2.2.2.2.2.2.1 = some a → flatL a.toList = true) (fun f s st hI hf => by
    simp only [Option.bind_eq_some_iff] at hf
    obtain ⟨j, hj, hf⟩ := hf
    intro a ha
    by_cases c1 : j.str.isEmpty = true
    · rw [if_pos c1] at hf; cases hf
    rw [if_neg c1] at hf
    by_cases c2 : f.embedded = true
    · rw [if_pos c2] at hf; cases hf
    rw [if_neg c2] at hf
    have fin : ∀ (tag : Option String) (g : String → Array Field × Nat × Nat × Nat × Nat × Bool × Bool × Option (Array Value) × String) (g' : String → Array Field × Nat × Nat × Nat × Nat × Bool × Bool × Option (Array Value) × String),
        (tag.bind fun t => if j.bytes = 0 then some (ForInStep.yield (g t)) else some (ForInStep.yield (g' t))) = some st →
        (∀ t a, (g t).2.2.2.2.2.2.2.1 = some a → flatL a.toList = true) → (∀ t a, (g' t).2.2.2.2.2.2.2.1 = some a → flatL a.toList = true) → flatL a.toList = true := by
      intro tag g g' e h1 h2
      cases tag with
      | none => cases e
      | some t =>
        simp only [Option.bind_some] at e
        split at e
        · cases e; exact h1 t a ha
        · cases e; exact h2 t a ha
    by_cases c3 : f.tag.isEmpty = true
    · rw [if_pos c3] at hf
      exact fin _ _ _ hf (fun t a ha => zlem _ _ _ _ a hj hI ha) (fun t a ha => zlem _ _ _ _ a hj hI ha)
    · rw [if_neg c3] at hf
      exact fin _ _ _ hf (fun t a ha => zlem _ _ _ _ a hj hI ha) (fun t a ha => zlem _ _ _ _ a hj hI ha)) _ _ _ (fun a ha => by cases ha; rfl) hs
  have key : ∀ (x : Option (Array Value)), (∀ a, x = some a → flatL a.toList = true) → x.map Value.agg = some z → flatV z = true := by
    intro x hx hm
    cases x with
    | none => cases hm
    | some a => cases hm; exact hx a rfl
  split at hr
  · cases hr; exact key _ hI hz
  · cases hr; exact key _ hI hz

theorem reckon_flat {info : TypeId → Option TypeInfo} (hi : ZF info) {d : TypeDesc} {i : TypeInfo} {z : Value} (h : Made.reckon info d = some i) (hz : i.zero = some z) : flatV z = true := by
  unfold Made.reckon at h
  cases d with
  | pointer e =>
    simp only [Option.bind_eq_bind, Option.bind_eq_some_iff] at h
    obtain ⟨j, _, h⟩ := h
    split at h
    · cases h
    · split at h
      · cases h
      · simp only [Option.pure_def, Option.bind_eq_some_iff, Option.some.injEq] at h
        obtain ⟨s, _, rfl⟩ := h
        cases hz; rfl
    · simp only [Option.pure_def, Option.bind_eq_some_iff, Option.some.injEq] at h
      obtain ⟨s, _, rfl⟩ := h
      cases hz; rfl
  | slice e =>
    simp only [Option.pure_def, Option.bind_eq_bind, Option.bind_eq_some_iff, Option.some.injEq] at h
    obtain ⟨_, _, _, _, rfl⟩ := h
    cases hz; rfl
  | map k e =>
    simp only [Option.pure_def, Option.bind_eq_bind, Option.bind_eq_some_iff, Option.some.injEq] at h
    obtain ⟨_, _, _, _, _, _, _, _, rfl⟩ := h
    cases hz; rfl
  | chan dr e =>
    simp only [Option.pure_def, Option.bind_eq_bind, Option.bind_eq_some_iff, Option.some.injEq] at h
    obtain ⟨_, _, _, _, rfl⟩ := h
    cases hz; rfl
  | func ps rs v =>
    simp only [Option.pure_def, Option.bind_eq_bind, Option.bind_eq_some_iff, Option.some.injEq] at h
    obtain ⟨_, _, rfl⟩ := h
    cases hz; rfl
  | array n e =>
    simp only [Option.pure_def, Option.bind_eq_bind, Option.bind_eq_some_iff, Option.some.injEq] at h
    obtain ⟨j, hj, _, _, rfl⟩ := h
    simp only [] at hz
    split at hz
    · cases hz
    · split at hz
      · cases hz; rfl
      · simp only [Option.map_eq_some_iff] at hz
        obtain ⟨y, hy, rfl⟩ := hz
        show flatL (Array.flatten (Array.replicate n y.cells)).toList = true
        rw [Array.toList_flatten]
        refine flatL_flatten fun x hx => ?_
        have : x = y.cells := by
          have := List.eq_of_mem_replicate (by simpa using hx : x ∈ List.replicate n y.cells)
          exact this
        rw [this]
        exact flat_cells (hi e j y hj hy)
  | struct fs => exact struct_flat hi h hz
  | _ => cases h

/-- The types' zeros bear no address: told by looking. -/
def zerosFlat (P : Program) : Bool := P.types.toList.all fun i => match i.zero with
  | some z => flatV z
  | none => true
theorem zerosFlat_spec {P : Program} (h : zerosFlat P = true) : ZerosFlat P := by
  have htab : ∀ (t : Nat) (i : TypeInfo) (z : Value), P.types[t]? = some i → i.zero = some z → flatV z = true := by
    intro t i z ht hz
    have hm : i ∈ P.types.toList := by simpa using Array.mem_of_getElem? ht
    have := List.all_eq_true.1 h i hm
    rw [hz] at this
    exact this
  have hmade : ∀ n, ZF (Made.infoAt P.toTables n) := by
    intro n
    induction n with
    | zero => intro t i z ht; cases ht
    | succ n ih =>
      intro t i z ht hz
      unfold Made.infoAt at ht
      split at ht
      · exact htab t i z ht hz
      · simp only [Option.bind_eq_some_iff] at ht
        obtain ⟨d, _, hd⟩ := ht
        exact reckon_flat ih hd hz
  intro t i z ht hz
  unfold Tables.info? at ht
  split at ht
  · exact htab t i z ht hz
  · exact hmade _ t i z ht hz
end Go.Ev
namespace Go.Ev
open Go Go.RowKit

/-- The evaluator, so many steps deep: code, functions, a deferred function's code, deferred calls. -/
noncomputable def run (P : Program) (gl : Nat) (sp : OpEv) (n : Nat) : RecC × RecF × RecS × RecD :=
  Nat.rec (fun _ _ _ => none, fun _ _ _ => none, fun _ _ _ _ => none, fun _ _ _ _ => none)
    (fun _ r => (stepC P gl (orEv (aop P gl r.2.1) sp) r.2.1 r.1, stepF P r.1 r.2.2.2, stepS P gl (orEv (aop P gl r.2.1) sp) r.2.1 r.1 r.2.2.1, stepD P r.2.2.1)) n
/-- A call over no heap but numbers of blocks: what it comes to, where it does not write. -/
noncomputable def evals (P : Program) (gl m n : Nat) (g : FuncId) (args : List Value) (p : Value → Bool) : Bool :=
  match (run P gl (checked gl (specialG gl P)) n).2.1 g args ⟨.nil, m, 0, 0⟩ with
  | some (.ret v, h) => flatV v && p v && Nat.beq (Nat.land h.wr (2 ^ m - 1)) 0
  | _ => false
section
variable {P : Program} {gl : Nat} {sp : OpEv}
theorem run_sound (hz : ZerosFlat P) (hm : P.follows .mixedOrders = true) (hsp : OpSound P gl sp) : ∀ n, CodeSound P gl (run P gl sp n).1 ∧ CallSound P gl (run P gl sp n).2.1 ∧ SoundS P gl (run P gl sp n).2.2.1 ∧ DeferSound P gl (run P gl sp n).2.2.2
  | 0 => ⟨fun _ _ _ _ _ _ e => (by cases e), fun _ _ _ _ _ e => (by cases e), fun _ _ _ _ _ _ _ _ e => (by cases e), fun _ _ _ _ _ _ e => (by cases e)⟩
  | n + 1 => by
    obtain ⟨h1, h2, h3, h4⟩ := run_sound hz hm hsp n
    have hev := (aop_sound hz h2).or hsp
    exact ⟨stepC_sound hm hev h2 h1, stepF_sound h1 h4, stepS_sound hev h2 h1 h3, stepD_sound h3⟩

theorem low_bits {x m : Nat} (h : Nat.land x (2 ^ m - 1) = 0) {i : Nat} (hi : i < m) : x.testBit i = false := by
  have h1 : (x &&& (2 ^ m - 1)).testBit i = false := by
    have : x &&& (2 ^ m - 1) = 0 := h
    rw [this]; simp
  rw [Nat.testBit_and, Nat.testBit_two_pow_sub_one] at h1
  simpa [hi] using h1

theorem evals_calls (hz : zerosFlat P = true) (hm : P.follows .mixedOrders = true) {m n : Nat} {g : FuncId} {args : List Value} {p : Value → Bool} (e : evals P gl m n g args p = true)
    {κ : K} {args' : Array Value} {w : World} (hg : KG gl κ) (hold : ∀ id b, κ id = some b → b.blk < w.heap.size ∧ id < m) (hargs : VL κ args args'.toList) :
    Calls P g args' w fun e w' => ∃ v, e = .returned v ∧ p v = true ∧ Below w.heap.size w w' := by
  unfold evals at e
  split at e
  · rename_i v h he
    simp only [Bool.and_eq_true, beq_eq, decide_eq_true_eq] at e
    obtain ⟨⟨e1, e2⟩, e3⟩ := e
    have hwf : WF ⟨.nil, m, 0, 0⟩ := ⟨fun id o h => (by cases h), fun id h => (by simp at h)⟩
    have hs := (run_sound (zerosFlat_spec hz) hm specialG_sound n).2.1 g args _ _ h he hwf
    have hrel : Rel P κ (fun _ => none) w := ⟨fun id o h => (by cases h), fun id id' o o' b b' h => (by cases h), fun id b h => (hold id b h).1⟩
    refine (hs.2 κ (fun _ => none) args' w hg hrel hargs (fun id _ _ => rfl) (fun id hid _ => ⟨rfl, ?_⟩)).mono fun en w' hen => ?_
    · cases hk : κ id with
      | none => rfl
      | some b => have := (hold id b hk).2; exact absurd hid (by show ¬ m ≤ id; omega)
    · obtain ⟨κ', hend, _, hkx⟩ := hen
      cases hend with
      | ret hv =>
      rename_i v'
      refine ⟨v', rfl, by rw [VR.eq_of_flat hv e1]; exact e2, hkx.same.os, hkx.same.tape, hkx.same.output, hkx.same.size, fun k hk => hkx.keep k hk fun id b hb hbk => low_bits e3 (hold id b hb).2⟩
  · cases e

def kg (gl : Nat) : K := fun id => cond (Nat.blt id gl) (some ⟨id, 0, 0, true, 0⟩) none
theorem kg_KG (gl : Nat) : KG gl (kg gl) := fun g hg => ⟨⟨g, 0, 0, true, 0⟩, by unfold kg; rw [show Nat.blt g gl = true by rw [Nat.blt_eq]; exact hg]; rfl, rfl, rfl⟩
theorem kg_old {gl N : Nat} (h : gl ≤ N) : ∀ id b, kg gl id = some b → b.blk < N ∧ id < gl := by
  intro id b hb
  unfold kg at hb
  cases hq : Nat.blt id gl with
  | false => rw [hq] at hb; cases hb
  | true => rw [hq] at hb; cases hb; have := blt_lt hq; exact ⟨by show id < N; omega, this⟩
/-- A closed call. -/
theorem evals_closed (hz : zerosFlat P = true) (hm : P.follows .mixedOrders = true) {n : Nat} {g : FuncId} {args : List Value} {p : Value → Bool} (e : evals P gl gl n g args p = true) (hf : flatL args = true) {w : World} (hsz : gl ≤ w.heap.size) :
    Calls P g ⟨args⟩ w fun e w' => ∃ v, e = .returned v ∧ p v = true ∧ Below w.heap.size w w' :=
  evals_calls hz hm e (kg_KG gl) (kg_old hsz) (VL.flat args hf)
end
end Go.Ev
namespace Go.Ev
open Go Go.RowKit

/-- A call over a start heap: what it comes to; what was there is not written. -/
noncomputable def evalsAt (P : Program) (gl : Nat) (h : AH) (n : Nat) (g : FuncId) (args : List Value) (p : Value → Bool) : Bool :=
  match (run P gl (checked gl (specialG gl P)) n).2.1 g args h with
  | some (.ret v, h') => flatV v && p v && Nat.beq (Nat.land h'.wr (2 ^ h.n - 1)) 0
  | _ => false
/-- A start heap stands for a world. -/
structure Start (P : Program) (gl : Nat) (κ : K) (h : AH) (w : World) : Prop where
  kg : KG gl κ
  rel : Rel P κ h.get w
  lt : ∀ id b, κ id = some b → id < h.n
  wf : WF h
section
variable {P : Program} {gl : Nat}
theorem evalsAt_calls (hz : zerosFlat P = true) (hm : P.follows .mixedOrders = true) {h : AH} {n : Nat} {g : FuncId} {args : List Value} {p : Value → Bool} (e : evalsAt P gl h n g args p = true)
    {κ : K} {args' : Array Value} {w : World} (hs : Start P gl κ h w) (hargs : VL κ args args'.toList) :
    Calls P g args' w fun e w' => ∃ v, e = .returned v ∧ p v = true ∧ Below w.heap.size w w' := by
  unfold evalsAt at e
  split at e
  · rename_i v h' he
    simp only [Bool.and_eq_true, beq_eq, decide_eq_true_eq] at e
    obtain ⟨⟨e1, e2⟩, e3⟩ := e
    have hr := (run_sound (zerosFlat_spec hz) hm specialG_sound n).2.1 g args _ _ h' he hs.wf
    refine (hr.2 κ h.get args' w hs.kg hs.rel hargs (fun id _ _ => rfl) (fun id hid _ => ⟨?_, ?_⟩)).mono fun en w' hen => ?_
    · cases hk : h.get id with
      | none => rfl
      | some o => have := hs.wf.dom id o hk; omega
    · cases hk : κ id with
      | none => rfl
      | some b => have := hs.lt id b hk; omega
    · obtain ⟨κ', hend, _, hkx⟩ := hen
      cases hend with
      | ret hv =>
      rename_i v'
      refine ⟨v', rfl, by rw [VR.eq_of_flat hv e1]; exact e2, hkx.same.os, hkx.same.tape, hkx.same.output, hkx.same.size, fun k hk => hkx.keep k hk fun id b hb hbk => low_bits e3 (hs.lt id b hb)⟩
  · cases e

/-- Nothing is known of the heap. -/
theorem Start.empty {κ : K} {m : Nat} {w : World} (hg : KG gl κ) (hold : ∀ id b, κ id = some b → b.blk < w.heap.size ∧ id < m) : Start P gl κ ⟨.nil, m, 0, 0⟩ w :=
  ⟨hg, ⟨fun id o h => (by cases h), fun id id' o o' b b' h => (by cases h), fun id b h => (hold id b h).1⟩, fun id b h => (hold id b h).2, ⟨fun id o h => (by cases h), fun id h => (by simp at h)⟩⟩
/-- A row that is known whole. -/
theorem Start.row {κ : K} {h : AH} {w : World} (hs : Start P gl κ h w) {id : Nat} {b : BI} {cs : List Value} {cs' : Array Value} {e : TypeId} (hsm : small id = true) (hb : κ id = some b) (hsh : b.sh = 0) (hex : b.ex = true) (htot : b.tot = cs.length)
    (hheap : w.heap[b.blk]? = some (.cells cs' e (0, 0))) (hcs : VL κ cs cs'.toList) (hone : ∀ id' o' b', h.get id' = some o' → κ id' = some b' → b'.blk = b.blk → id' = id) :
    Start P gl κ { h with t := h.t.set 24 id (some (.cells cs e 0 0 true false)) } w := by
  have hget : ∀ j, ({ h with t := h.t.set 24 id (some (.cells cs e 0 0 true false)) } : AH).get j = if j = id then some (.cells cs e 0 0 true false) else h.get j := fun j => T.get_set 24 h.t id _ j (small_lt hsm)
  have hlen : cs'.size = cs.length := by have := hcs.length; simpa using this
  refine ⟨hs.kg, ⟨fun j o hj => ?_, fun j j' o o' x x' hj hj' hx hx' hblk hvw => ?_, hs.rel.old⟩, hs.lt, ⟨fun j o hj => ?_, hs.wf.wr⟩⟩
  · rw [hget] at hj
    by_cases hji : j = id
    · rw [if_pos hji] at hj
      cases hj
      subst hji
      refine ⟨b, hb, hex, by rw [if_pos rfl]; exact ⟨hsh, htot⟩, by omega, cs', (0, 0), ⟨_, hheap, fun _ => rfl⟩, by omega, fun i v hv => ?_, fun _ => .inl rfl⟩
      rcases hcs.get i with ⟨a1, _⟩ | ⟨u, u', a1, a2, a3⟩
      · rw [a1] at hv; cases hv
      · rw [a1] at hv; cases hv
        exact ⟨u', by rw [hsh, Nat.zero_add]; simpa using a2, fun _ => a3⟩
    · rw [if_neg hji] at hj
      exact hs.rel.at_ j o hj
  · rw [hget] at hj hj'
    by_cases hji : j = id <;> by_cases hji' : j' = id
    · rw [hji, hji']
    · rw [if_neg hji'] at hj'
      subst hji
      rw [hb] at hx; cases hx
      exact (hone j' o' x' hj' hx' hblk.symm).symm
    · rw [if_neg hji] at hj
      subst hji'
      rw [hb] at hx'; cases hx'
      exact hone j o x hj hx hblk
    · rw [if_neg hji] at hj
      rw [if_neg hji'] at hj'
      exact hs.rel.one j j' o o' x x' hj hj' hx hx' hblk hvw
  · rw [hget] at hj
    by_cases hji : j = id
    · subst hji; exact hs.lt j b hb
    · rw [if_neg hji] at hj; exact hs.wf.dom j o hj
end
end Go.Ev
namespace Go.Ev
open Go Go.RowKit
section
variable {P : Program} {gl : Nat}
/-- One more view. -/
theorem Start.view {κ : K} {h : AH} {w : World} (hs : Start P gl κ h w) {id : Nat} {b : BI} {cs : List Value} {cs' : Array Value} {e e' : TypeId} {fz : Nat × Nat} (hsm : small id = true) (hb : κ id = some b) (hex : b.ex = false) (hsz : b.sz = P.cellsOf e)
    (htot : cs'.size = b.tot) (hle : b.sh + cs.length ≤ b.tot) (hheap : w.heap[b.blk]? = some (.cells cs' e' fz)) (hcs : ∀ (i : Nat) v, cs[i]? = some v → ∃ v', cs'[b.sh + i]? = some v' ∧ VR κ v v')
    (hv : ∀ id' o', h.get id' = some o' → o'.view = true) :
    Start P gl κ { h with t := h.t.set 24 id (some (.cells cs e 1 0 false false)) } w ∧ ∀ id' o', ({ h with t := h.t.set 24 id (some (.cells cs e 1 0 false false)) } : AH).get id' = some o' → o'.view = true := by
  have hget : ∀ j, ({ h with t := h.t.set 24 id (some (.cells cs e 1 0 false false)) } : AH).get j = if j = id then some (.cells cs e 1 0 false false) else h.get j := fun j => T.get_set 24 h.t id _ j (small_lt hsm)
  have hviews : ∀ id' o', ({ h with t := h.t.set 24 id (some (.cells cs e 1 0 false false)) } : AH).get id' = some o' → o'.view = true := fun j o hj => by
    rw [hget] at hj
    by_cases hji : j = id
    · rw [if_pos hji] at hj; cases hj; rfl
    · rw [if_neg hji] at hj; exact hv j o hj
  refine ⟨⟨hs.kg, ⟨fun j o hj => ?_, fun j j' o o' x x' hj hj' hx hx' hblk hvw => ?_, hs.rel.old⟩, hs.lt, ⟨fun j o hj => ?_, hs.wf.wr⟩⟩, hviews⟩
  · rw [hget] at hj
    by_cases hji : j = id
    · rw [if_pos hji] at hj
      cases hj
      subst hji
      exact ⟨b, hb, hex, by rw [if_neg (by simp)]; exact hsz, hle, cs', fz, ⟨e', hheap, fun hlh => absurd hlh (by omega)⟩, htot, fun i v hi => let ⟨v', h1, h2⟩ := hcs i v hi; ⟨v', h1, fun _ => h2⟩, fun hlh => absurd hlh (by omega)⟩
    · rw [if_neg hji] at hj
      exact hs.rel.at_ j o hj
  · rw [hviews j o hj, hviews j' o' hj'] at hvw; cases hvw
  · rw [hget] at hj
    by_cases hji : j = id
    · subst hji; exact hs.lt j b hb
    · rw [if_neg hji] at hj; exact hs.wf.dom j o hj
end
end Go.Ev
