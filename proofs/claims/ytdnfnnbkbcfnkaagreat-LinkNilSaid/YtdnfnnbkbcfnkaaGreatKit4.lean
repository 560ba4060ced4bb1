/- A certified evaluator of calls, run by the kernel, with its rules for what is not known: what it tells holds of every program. -/
import Derived.Lib.Builder
import Derived.Lib.MakeNoZero
import Derived.Laws.IdiomStrings
import Derived.Test.YtdnfnnbkbcfnkaaGreatKit3
import Derived.LoopN
namespace Go.Ev
open Go

def convA (P : Program) (src dst : TypeId) (v : Value) (h : AH) : Option (Value × AH) :=
  match P.underlying src, P.underlying dst, v with
  | some (.pointer t), some .unsafePointer, .pointer (some a) =>
    match a.spot, h.get a.block, P.info? t with
    | none, some (.cells c _ lo hi _ _), some i => cond (Nat.ble lo hi && (Nat.blt a.off c.length && !(Nat.beq i.size 0))) (some (v, h.rdBit a.block)) none
    | _, _, _ => none
  | some .unsafePointer, some (.pointer u), .pointer (some a) =>
    match a.spot, h.get a.block, P.info? u with
    | none, some (.cells c e lo hi true _), some _ => cond (Nat.ble lo hi && liesAt P P.depth e (c.length / P.cellsOf e) a.off u 1) (some (v, h.rdBit a.block)) none
    | _, _, _ => none
  | some .string, some (.slice e), .string s =>
    match P.underlying e with
    | some (.int .u8) => cond (Nat.beq (P.cellsOf e) 1 && small h.n) (some (.slice (some ⟨h.n, 0, none⟩) s.size s.size, h.push (.cells (s.data.toList.map fun b => .int .u8 b.toNat) e 0 0 false true))) none
    | _ => none
  | _, _, _ => none
/-- A literal's bytes: the row is marked. -/
def markA (P : Program) (src dst : TypeId) (v : Value) (h : AH) : Option (Value × AH) :=
  match P.underlying src, P.underlying dst, v with
  | some (.slice _), some (.slice e), .slice (some a) _ _ =>
    match P.underlying e, h.get a.block with
    | some (.int .u8), some (.cells c e0 lo hi ex st) => cond (Nat.ble lo hi && ((src == dst) && (st || Nat.ble hi lo) && small a.block)) (some (v, h.put a.block (.cells c e0 0 0 ex true))) none
    | _, _ => none
  | _, _, _ => none
def noEscapeA (P : Program) (g : FuncId) (args : List Value) : Option Value :=
  match P.funcs[g]?, args with
  | some fn, [x] => cond (fn.body.isNone && (fn.name == "internal/abi.NoEscape") && (Extern.findNext fn).isNone) (some x) none
  | _, _ => none
/-- A row whose bytes nobody knows. -/
def noZeroA (P : Program) (g : FuncId) (args : List Value) (h : AH) : Option (Value × AH) :=
  match P.funcs[g]?, args with
  | some fn, [.int .i64 (.ofNat n)] => match fn.resultTypes.toList with
    | [t] => match P.underlying t with
      | some (.slice e) => cond (fn.body.isNone && (fn.name == "internal/bytealg.MakeNoZero") && (Extern.findNext fn).isNone && Nat.ble n 16777216 && Nat.beq (P.cellsOf e) 1 && small h.n)
          (some (.slice (some ⟨h.n, 0, none⟩) n n, h.push (.cells (List.replicate n (.tuple #[])) e 0 0 false false))) none
      | _ => none
    | _ => none
  | _, _ => none
def sliceDataA (x : Value) : Option Value :=
  match x with
  | .slice (some a) _ c => cond (Nat.beq c 0) none (some (.pointer (some a)))
  | _ => none
def unsafeStringA (P : Program) (pt : TypeId) (x y : Value) (h : AH) : Option (Value × AH) :=
  match x, y, P.underlying pt with
  | .pointer (some a), .int _ (.ofNat m), some (.pointer u) =>
    match h.get a.block, a.spot with
    | some (.cells c e lo hi ex false), none =>
      cond (Nat.ble lo hi && Nat.blt 0 m && Nat.ble m 1099511627776 && Nat.beq (P.cellsOf e) 1 && sameLayout P P.depth e u && small a.block && Nat.ble (a.off + m) c.length)
        (match arun P (loadBytes a .empty m) h with
          | some (s, h1) => some (.string s, h1.put a.block (.cells c e (cond (Nat.blt lo hi) (min lo a.off) a.off) (cond (Nat.blt lo hi) (max hi (a.off + m)) (a.off + m)) ex false))
          | none => none) none
    | _, _ => none
  | _, _, _ => none
def special (P : Program) : OpEv := fun f o h =>
  match o.op with
  | .convert src dst x => match convA P src dst (f.eval x) h with
    | some r => some r
    | none => markA P src dst (f.eval x) h
  | .call c => match c.callee, c.args.toList with
    | .builtin .unsafeSliceData, [x] => match sliceDataA (f.eval x) with
      | some v => some (v, h)
      | none => none
    | .builtin .unsafeString, [x, y] => match c.argTypes[0]? with
      | some pt => unsafeStringA P pt (f.eval x) (f.eval y) h
      | none => none
    | .value z, l => match f.eval z with
      | .func (.func g) ⟨[]⟩ ⟨[]⟩ => match noEscapeA P g (l.map f.eval) with
        | some v => some (v, h)
        | none => noZeroA P g (l.map f.eval) h
      | _ => none
    | _, _ => none
  | _ => none
def checked (gl : Nat) (ev : OpEv) : OpEv := fun f o h => cond (o.op.operands.toList.all (operandOk gl)) (ev f o h) none

section
variable {P : Program} {gl : Nat}
theorem checked_sound {ev : OpEv} (he : ∀ f o h v h', ev f o h = some (v, h') → WF h → OpAt P gl f o h v h') : OpSound P gl (checked gl ev) := by
  intro f o h v h' e wf
  unfold checked at e
  cases hall : o.op.operands.toList.all (operandOk gl) with
  | false => rw [hall] at e; cases e
  | true =>
    rw [hall] at e
    have hat := he f o h v h' e wf
    refine ⟨hat.1, fun κ G a w K' Q hg hrel hag hfs ht hk => hat.2 κ G a w K' Q hg hrel hag hfs (fun x hx => ?_) hk⟩
    exact eval_rel hg (fun t hxt => ht t (hxt ▸ hx)) (List.all_eq_true.1 hall x (by simpa using hx))

theorem opAt_read {f : Fr} {o : Oper} {h h0 : AH} {v : Value} (hm : Marked h h0) (wf : WF h)
    (hrun : ∀ (κ : K) (G : Nat → Option AObj) (a : Act) (w : World), Rel P κ G w → Agree h h0 G → (∀ x ∈ o.op.operands, VR κ (f.eval x) (a.eval x)) → ∃ v', VR κ v v' ∧ OpGives P o a w v' w) : OpAt P gl f o h v h0 := by
  refine ⟨⟨hm.ext, hm.wf wf⟩, fun κ G a w K' Q hg hrel hag hfs hρ hk => ?_⟩
  obtain ⟨v', hv, hgv⟩ := hrun κ G a w hrel hag hρ
  refine wp_of_gives hgv (hk κ v' w hv (by rw [merge_read wf ⟨hm.1, hm.2.1, hm.2.2.1⟩ hag]; exact hrel) ?_)
  exact ⟨K.le_refl κ, fun _ _ => rfl, fun _ _ e => .inl e, fun _ _ _ => rfl, Same.refl w⟩

/-- Where a pointer into a row points in the world. -/
theorem row_at {κ : K} {G : Nat → Option AObj} {w : World} (hrel : Rel P κ G w) {a a' : Addr} (ha : AddrR κ a a') {c : List Value} {e : TypeId} {lo hi : Nat} {ex st : Bool} (hlh : lo ≤ hi) (hG : G a.block = some (.cells c e lo hi ex st)) :
    ∃ b c' fz, κ a.block = some b ∧ a' = ⟨b.blk, b.sh + a.off, none⟩ ∧ b.ex = ex ∧ w.heap[a'.block]? = some (.cells c' e fz) ∧ c'.size = b.tot ∧ b.sh + c.length ≤ b.tot ∧ (ex = true → b.sh = 0 ∧ b.tot = c.length) ∧ (ex = false → b.sz = P.cellsOf e) ∧ w.shape? a'.block = some (e, b.tot) := by
  obtain ⟨b, hb, ho1, ho2, ho3, c', fz, ⟨e', hc, het⟩, hsz, _⟩ := hrel.at_ _ _ hG
  rw [het hlh] at hc
  obtain ⟨_, b', hb', rfl⟩ := ha
  obtain rfl : b' = b := Option.some.inj (hb'.symm.trans hb)
  refine ⟨b', c', fz, hb, rfl, ho1, hc, hsz, ho3, fun h => ?_, fun h => ?_, by simp [World.shape?, hc, hsz]⟩
  · subst h; simpa using ho2
  · subst h; simpa using ho2

theorem noEscape_find {fn : Func} (h : fn.name = "internal/abi.NoEscape") : Extern.find fn = some Extern.AbiNoEscape.same := by
  unfold Extern.find
  rw [h]
  rfl

theorem fresh_bytes {κ : K} {G : Nat → Option AObj} {w : World} (hrel : Rel P κ G w) {j : Nat} (hG : G j = none) (hκ : κ j = none) {e : TypeId} (l : List Value) (hl : flatL l = true) (rest : Array Value) (hsz : P.cellsOf e = 1) :
    Rel P (fun i => if i = j then some ⟨w.heap.size, 0, l.length + rest.size, false, 1⟩ else κ i) (fun i => if i = j then some (.cells l e 0 0 false true) else G i)
      (w.drew.alloc (.cells (l.toArray ++ rest) e (l.length + rest.size, l.length + rest.size + 1))) := by
  refine (rel_drew hrel).alloc hG hκ rfl ⟨rfl, by simpa using hsz.symm, by simp, l.toArray ++ rest, _, ⟨_, ?_, fun _ => rfl⟩, ?_, fun i v hv => ?_, fun _ => .inr (.inl ⟨rfl, rfl⟩)⟩
  · show (w.heap.push _)[w.heap.size]? = _
    simp
  · simp
  · have hlt : i < l.length := by
      rcases Nat.lt_or_ge i l.length with q | q
      · exact q
      · rw [List.getElem?_eq_none q] at hv; cases hv
    refine ⟨v, ?_, fun _ => ?_⟩
    · simp only [Nat.zero_add]
      rw [Array.getElem?_append_left (by simpa using hlt)]
      simpa using hv
    · refine VR.flat v ?_
      have : ∀ (l : List Value), flatL l = true → ∀ v ∈ l, flatV v = true := by
        intro l
        induction l with
        | nil => intro _ v hv; simp at hv
        | cons x l ih =>
          intro h v hv
          simp only [flatL, Bool.and_eq_true] at h
          rcases List.mem_cons.1 hv with rfl | hv
          · exact h.1
          · exact ih h.2 v hv
      exact this l hl v (List.mem_of_getElem? hv)

theorem convA_sound {f : Fr} {o : Oper} {src dst : TypeId} {x : Operand} (ho : o.op = .convert src dst x) {h : AH} {v : Value} {h' : AH} (e : convA P src dst (f.eval x) h = some (v, h')) (wf : WF h) : OpAt P gl f o h v h' := by
  have hx : ∀ {κ : K} {a : Act}, (∀ x ∈ o.op.operands, VR κ (f.eval x) (a.eval x)) → VR κ (f.eval x) (a.eval x) := fun hρ => hρ x (by rw [ho]; simp [Op.operands])
  have give : ∀ {a : Act} {w w' : World} {v' : Value}, (convert src dst (a.eval x)).run P w = .ok v' w' → OpGives P o a w v' w' := by
    intro a w w' v' hr
    left
    simp [execOp, ho, hr]
  unfold convA at e
  split at e
  · rename_i t a hs hd hv
    split at e
    · rename_i c e0 lo hi ex st i hsp hg hinf
      cases hq : (Nat.ble lo hi && (Nat.blt a.off c.length && !(Nat.beq i.size 0))) with
      | false => rw [hq] at e; cases e
      | true =>
        rw [hq] at e
        cases e
        simp only [Bool.and_eq_true, Bool.not_eq_true', beq_eq, decide_eq_false_iff_not, Nat.ble_eq] at hq
        obtain ⟨hlh, hq⟩ := hq
        have hlt := blt_lt hq.1
        refine opAt_read (Marked.rdBit h _) wf fun κ G ac w hrel hag hρ => ?_
        have hvr := hx hρ
        rw [hv] at hvr
        generalize hv' : ac.eval x = v' at hvr
        cases hvr with
        | ptr ha =>
          rename_i a'
          have hGa := (hag a.block (wf.dom _ _ hg) (by simp [AH.touched, rd_rdBit])).trans hg
          obtain ⟨b, c', fz, h1, h2, h3, h4, h5, h6, h7, h8, h9⟩ := row_at hrel ha hlh hGa
          refine ⟨.pointer (some a'), by rw [hv]; exact .ptr ha, give ?_⟩
          rw [hv']
          refine Lib.run_to_unsafe w a' hs hd hinf hq.2 h9 ?_
          rw [h2]
          show b.sh + a.off < b.tot
          omega
    · cases e
  · rename_i u a hs hd hv
    split at e
    · rename_i c e0 lo hi st i hsp hg hinf
      cases hq : (Nat.ble lo hi && liesAt P P.depth e0 (c.length / P.cellsOf e0) a.off u 1) with
      | false => rw [hq] at e; cases e
      | true =>
        rw [hq] at e
        cases e
        simp only [Bool.and_eq_true, Nat.ble_eq] at hq
        obtain ⟨hlh, hq⟩ := hq
        refine opAt_read (Marked.rdBit h _) wf fun κ G ac w hrel hag hρ => ?_
        have hvr := hx hρ
        rw [hv] at hvr
        generalize hv' : ac.eval x = v' at hvr
        cases hvr with
        | ptr ha =>
          rename_i a'
          have hGa := (hag a.block (wf.dom _ _ hg) (by simp [AH.touched, rd_rdBit])).trans hg
          obtain ⟨b, c', fz, h1, h2, h3, h4, h5, h6, h7, h8, h9⟩ := row_at hrel ha hlh hGa
          obtain ⟨h10, h11⟩ := h7 rfl
          refine ⟨.pointer (some a'), by rw [hv]; exact .ptr ha, give ?_⟩
          rw [hv']
          refine Lib.run_from_unsafe w a' hs hd hinf h9 ?_
          rw [h2, h11, h10, Nat.zero_add]
          exact hq
    · cases e
  · rename_i el s hs hd hv
    split at e
    · rename_i hel
      cases hq : (Nat.beq (P.cellsOf el) 1 && small h.n) with
      | false => rw [hq] at e; cases e
      | true =>
        rw [hq] at e
        cases e
        simp only [Bool.and_eq_true, beq_eq, decide_eq_true_eq] at hq
        obtain ⟨hc1, hsm⟩ := hq
        refine ⟨⟨ext_push wf hsm _, wf_push wf hsm _⟩, fun κ G ac w K' Q hg hrel hag hfs hρ hk => ?_⟩
        have hvr := hx hρ
        rw [hv] at hvr
        generalize hv' : ac.eval x = v' at hvr
        cases hvr with
        | string =>
          have hnone := hfs h.n (Nat.le_refl _) (by show h.n < h.n + 1; omega)
          have hrun := run_bytes_of_string (P := P) w src dst el s hs hd hel
          have hge : s.size ≤ grownCap w s.size 0 el := by simp [grownCap, Question.cut]
          have hlen : (s.data.toList.map fun b => Value.int .u8 b.toNat).length = s.size := by rw [List.length_map, Array.length_toList]; rfl
          have hrow : bytesRow s (grownCap w s.size 0 el) = (s.data.toList.map fun b => Value.int .u8 b.toNat).toArray ++ Array.replicate (grownCap w s.size 0 el - s.size) (.int .u8 0) := by
            show s.data.map _ ++ _ = _ ++ _
            rw [← Array.toList_map, Array.toArray_toList]
          have hrs : (bytesRow s (grownCap w s.size 0 el)).size = (s.data.toList.map fun b => Value.int .u8 b.toNat).length + (Array.replicate (grownCap w s.size 0 el - s.size) (Value.int .u8 0)).size := by
            rw [hrow]; simp
          have hfl : flatL (s.data.toList.map fun b => Value.int .u8 b.toNat) = true := by
            have : ∀ l : List UInt8, flatL (l.map fun b => Value.int .u8 b.toNat) = true := by
              intro l
              induction l with
              | nil => rfl
              | cons x l ih => simp [flatL, flatV, ih]
            exact this _
          have hR := fresh_bytes (P := P) hrel hnone.1 hnone.2 (e := el) _ hfl (Array.replicate (grownCap w s.size 0 el - s.size) (.int .u8 0)) hc1
          rw [← hrow, ← hrs] at hR
          refine wp_of_gives (give (by rw [hv']; exact hrun)) (hk (fun i => if i = h.n then some ⟨w.heap.size, 0, (bytesRow s (grownCap w s.size 0 el)).size, false, 1⟩ else κ i) _ _ (.slice ⟨rfl, rfl, _, if_pos rfl, rfl, .inr ⟨rfl, ?_, Nat.le_refl _, hge, .inl rfl⟩⟩) ?_ ?_)
          · simp only [hrs, hlen, Array.size_replicate, Nat.zero_add, Nat.mul_one]
            omega
          · rw [merge_push wf (ext_push wf hsm _) hag hsm]
            exact hR
          · refine ⟨fun q y hy => ?_, fun q hq => if_neg ?_, fun q y hy => ?_, fun k hk _ => heap_push_old (w := w) hk, ⟨rfl, rfl, rfl, by rw [World.size_alloc, World.size_drew]; exact Nat.le_succ _⟩⟩
            · by_cases hqn : q = h.n
              · subst hqn; rw [hnone.2] at hy; cases hy
              · simp only [hqn, if_false]; exact hy
            · intro hqn; exact hq ⟨by omega, by show q < h.n + 1; omega⟩
            · by_cases hqn : q = h.n
              · simp only [hqn, if_true, Option.some.injEq] at hy; subst hy; exact .inr (.inl (Nat.le_refl _))
              · simp only [hqn, if_false] at hy; exact .inl hy
    · cases e
  · cases e

theorem noEscapeA_sound {f : Fr} {o : Oper} {c : Call} (ho : o.op = .call c) {z : Operand} (hc : c.callee = .value z) {g : FuncId} (hz : f.eval z = .func (.func g) ⟨[]⟩ ⟨[]⟩) {h : AH} {v : Value}
    (e : noEscapeA P g (c.args.toList.map f.eval) = some v) (wf : WF h) : OpAt P gl f o h v h := by
  unfold noEscapeA at e
  split at e
  · rename_i fn x hfn hargs
    cases hq : (fn.body.isNone && (fn.name == "internal/abi.NoEscape") && (Extern.findNext fn).isNone) with
    | false => rw [hq] at e; cases e
    | true =>
      rw [hq] at e
      cases e
      simp only [Bool.and_eq_true, beq_iff_eq, Option.isNone_iff_eq_none] at hq
      obtain ⟨⟨hb, hn⟩, hnx⟩ := hq
      refine opAt_read (Marked.refl h) wf fun κ G a w hrel hag hρ => ?_
      have hz' : VR κ (f.eval z) (a.eval z) := hρ z (by rw [ho]; simp [Op.operands, Call.operands, hc])
      rw [hz] at hz'
      obtain ⟨args, hl⟩ : ∃ args : List Operand, c.args = ⟨args⟩ := ⟨c.args.toList, rfl⟩
      rw [hl] at hargs
      match args, hargs, hl with
      | [y], hargs, hl =>
        simp only [List.map_cons, List.map_nil, List.cons.injEq, and_true] at hargs
        subst hargs
        have hy : VR κ (f.eval y) (a.eval y) := hρ y (by rw [ho]; simp [Op.operands, Call.operands, hl])
        refine ⟨a.eval y, hy, .inl ?_⟩
        generalize hzz : a.eval z = z' at hz'
        cases hz' with
        | func _ h1 h2 =>
          cases h1; cases h2
          have hne : ¬ fn.name = "runtime.NumGoroutine" := by rw [hn]; decide
          have hsame : ∀ x : Value, Extern.AbiNoEscape.same #[x] = pure x := fun x => rfl
          have hcall : ∀ x : Value, (callFunc g #[x]).run P w = .ok (.value x) w := fun x => by
            simp [callFunc, hfn, hne, hb, hnx, noEscape_find hn, hsame]
          simp [execOp, ho, resolve, hc, hl, hzz, Deferred.ofValue, invoke, hcall]
  · cases e

theorem noZero_find {fn : Func} (h : fn.name = "internal/bytealg.MakeNoZero") : Extern.find fn = some (Extern.BytealgMakeNoZero.makeNoZero fn.params fn.resultTypes) := by
  unfold Extern.find
  rw [h]
  rfl
theorem noZeroA_sound {f : Fr} {o : Oper} {c : Call} (ho : o.op = .call c) {z : Operand} (hc : c.callee = .value z) {g : FuncId} (hz : f.eval z = .func (.func g) ⟨[]⟩ ⟨[]⟩) {h : AH} {v : Value} {h' : AH}
    (e : noZeroA P g (c.args.toList.map f.eval) h = some (v, h')) (wf : WF h) : OpAt P gl f o h v h' := by
  unfold noZeroA at e
  split at e
  · rename_i fn n hfn hargs
    split at e
    · rename_i t hrt
      split at e
      · rename_i el hu
        cases hq : (fn.body.isNone && (fn.name == "internal/bytealg.MakeNoZero") && (Extern.findNext fn).isNone && Nat.ble n 16777216 && Nat.beq (P.cellsOf el) 1 && small h.n) with
        | false => rw [hq] at e; cases e
        | true =>
          rw [hq] at e
          cases e
          simp only [Bool.and_eq_true, beq_iff_eq, Option.isNone_iff_eq_none, Nat.ble_eq, beq_eq, decide_eq_true_eq] at hq
          obtain ⟨⟨⟨⟨⟨hb, hn⟩, hnx⟩, hle⟩, hc1⟩, hsm⟩ := hq
          refine ⟨⟨ext_push wf hsm _, wf_push wf hsm _⟩, fun κ G a w K' Q hg hrel hag hfs hρ hk => ?_⟩
          have hz' : VR κ (f.eval z) (a.eval z) := hρ z (by rw [ho]; simp [Op.operands, Call.operands, hc])
          rw [hz] at hz'
          have hrt' : fn.resultTypes = #[t] := by rw [← Array.toList_inj, hrt]
          obtain ⟨args, hl⟩ : ∃ args : List Operand, c.args = ⟨args⟩ := ⟨c.args.toList, rfl⟩
          rw [hl] at hargs
          have hl1 : args.length = 1 := by have := congrArg List.length hargs; simpa using this
          obtain ⟨y, rfl⟩ := List.length_eq_one_iff.1 hl1
          simp only [List.map_cons, List.map_nil, List.cons.injEq, and_true] at hargs
          have hy : VR κ (f.eval y) (a.eval y) := hρ y (by rw [ho]; simp [Op.operands, Call.operands, hl])
          rw [hargs] at hy
          generalize hyy : a.eval y = y' at hy
          generalize hzz : a.eval z = z' at hz'
          cases hy with
          | int =>
            cases hz' with
            | func _ h1 h2 =>
              cases h1; cases h2
              obtain ⟨cs, hrun, hcs⟩ := Lib.run_makeNoZero (P := P) w fn.params t el hu n (by omega)
              have hsz : n ≤ cs.size := hcs.1
              have hne : ¬ fn.name = "runtime.NumGoroutine" := by rw [hn]; decide
              have hcall : (callFunc g #[.int .i64 (Int.ofNat n)]).run P w = .ok (.value (.slice (some ⟨w.heap.size, 0, none⟩) n cs.size)) (w.drew.drew.alloc (.cells cs el)) := by
                have hrun' : (Extern.BytealgMakeNoZero.makeNoZero fn.params #[t] #[.int .i64 (Int.ofNat n)]).run P w = .ok (.slice (some ⟨w.heap.size, 0, none⟩) n cs.size) (w.drew.drew.alloc (.cells cs el)) := hrun
                simp only [Int.ofNat_eq_natCast] at hrun'
                simp [callFunc, hfn, hne, hb, hnx, noZero_find hn, hrt', hrun']
              have hnone := hfs h.n (Nat.le_refl _) (by show h.n < h.n + 1; omega)
              have hR : Rel P (fun i => if i = h.n then some ⟨w.heap.size, 0, cs.size, false, 1⟩ else κ i) (fun i => if i = h.n then some (.cells (List.replicate n (.tuple #[])) el 0 0 false false) else G i) (w.drew.drew.alloc (.cells cs el)) := by
                refine (rel_drew (rel_drew hrel)).alloc hnone.1 hnone.2 rfl ⟨rfl, by simpa using hc1.symm, by simpa using hsz, cs, (0, 0), ⟨_, ?_, fun _ => rfl⟩, rfl, fun i v hv => ?_, fun _ => .inl rfl⟩
                · show (w.heap.push _)[w.heap.size]? = _
                  simp
                · have hlt : i < n := by
                    rcases Nat.lt_or_ge i n with q | q
                    · exact q
                    · rw [List.getElem?_eq_none (by simpa using q)] at hv; cases hv
                  refine ⟨cs[i]'(by omega), by simp only [Nat.zero_add]; exact Array.getElem?_eq_getElem (by omega), fun hone => ?_⟩
                  rw [List.getElem?_replicate, if_pos hlt] at hv
                  cases hv
                  cases hone
              refine wp_of_gives (v' := .slice (some ⟨w.heap.size, 0, none⟩) n cs.size) (w' := w.drew.drew.alloc (.cells cs el)) (.inl ?_)
                (hk (fun i => if i = h.n then some ⟨w.heap.size, 0, cs.size, false, 1⟩ else κ i) _ _ (.slice ⟨rfl, rfl, _, if_pos rfl, rfl, .inr ⟨rfl, by simp, Nat.le_refl _, hsz, .inl rfl⟩⟩) ?_ ?_)
              · simp only [Int.ofNat_eq_natCast] at hcall hyy
                simp [execOp, ho, resolve, hc, hl, hzz, hyy, Deferred.ofValue, invoke, hcall]
              · rw [merge_push wf (ext_push wf hsm _) hag hsm]
                exact hR
              · refine ⟨fun q y hy => ?_, fun q hq => if_neg ?_, fun q y hy => ?_, fun k hk _ => heap_push_old (w := w) hk, ⟨rfl, rfl, rfl, by show w.heap.size ≤ (w.heap.push _).size; simp⟩⟩
                · by_cases hqn : q = h.n
                  · subst hqn; rw [hnone.2] at hy; cases hy
                  · simp only [hqn, if_false]; exact hy
                · intro hqn; exact hq ⟨by omega, by show q < h.n + 1; omega⟩
                · by_cases hqn : q = h.n
                  · simp only [hqn, if_true, Option.some.injEq] at hy; subst hy; exact .inr (.inl (Nat.le_refl _))
                  · simp only [hqn, if_false] at hy; exact .inl hy
      · cases e
    · cases e
  · cases e

theorem sliceDataA_sound {f : Fr} {o : Oper} {c : Call} (ho : o.op = .call c) {y : Operand} (hc : c.callee = .builtin .unsafeSliceData) (hl : c.args.toList = [y]) {h : AH} {v : Value}
    (e : sliceDataA (f.eval y) = some v) (wf : WF h) : OpAt P gl f o h v h := by
  unfold sliceDataA at e
  split at e
  · rename_i ad n cp hv
    cases hq : Nat.beq cp 0 with
    | true => rw [hq] at e; cases e
    | false =>
      rw [hq] at e
      cases e
      rw [beq_eq, decide_eq_false_iff_not] at hq
      have hl' : c.args = #[y] := by rw [← Array.toList_inj, hl]
      refine opAt_read (Marked.refl h) wf fun κ G a w hrel hag hρ => ?_
      have hy : VR κ (f.eval y) (a.eval y) := hρ y (by rw [ho]; simp [Op.operands, Call.operands, hl'])
      rw [hv] at hy
      generalize hyy : a.eval y = y' at hy
      cases hy with
      | slice hs =>
        rename_i a' c'
        obtain ⟨h1, h2, b, hb, hblk, hcase⟩ := hs
        have hcp : c' ≠ 0 := by rcases hcase with ⟨_, e⟩ | ⟨_, _, _, e, _⟩ <;> omega
        have hoff : a'.off = b.sh + ad.off := by
          rcases hcase with ⟨e, _⟩ | ⟨_, _, _, _, e | ⟨_, e⟩⟩
          · exact e
          · exact e
          · exact absurd e hq
        refine ⟨.pointer (some a'), .ptr ⟨h1, b, hb, by cases a'; simp only [] at *; subst h2 hblk hoff; rfl⟩, .inl ?_⟩
        have hsd : (Builtin.unsafeSliceData_ c.argTypes o.type #[.slice (some a') n c']).run P w = .ok (.pointer (some a')) w := by
          show (ite (c' ≠ 0) (pure (.pointer (some a')) : Sem Value) _).run P w = _
          rw [if_pos hcp]
          rfl
        simp [execOp, ho, resolve, hc, hl', invoke, builtin, hyy, hsd]
  · cases e

/-! ### a row seen as a text -/

theorem sr_loadBytes {κ : K} : ∀ (n : Nat) (acc : ByteArray) (κ' : K), κ.le κ' → ∀ {a a' : Addr}, AddrR κ' a a' → SR P EqR κ' (loadBytes a acc n) (loadBytes a' acc n)
  | 0, acc, κ', _, _, _, _ => .pure rfl
  | n + 1, acc, κ', hk, a, a', ha => by
    refine .load ha fun v v' hv => ?_
    cases hv with
    | int k b => cases k <;> first
      | exact sr_loadBytes n _ κ' hk (ha.add 1)
      | exact .halt
    | _ => exact .halt
theorem ro_loadBytes : ∀ (n : Nat) (a : Addr) (acc : ByteArray), RO P (loadBytes a acc n)
  | 0, _, _ => ro_pure _
  | n + 1, a, acc => ro_bind (ro_load a) fun v => by
    split
    · exact ro_loadBytes n _ _
    · exact ro_halt _
theorem lo_loadBytes : ∀ (n : Nat) (a : Addr) (acc : ByteArray), LO P (loadBytes a acc n)
  | 0, _, _ => lo_pure _
  | n + 1, a, acc => lo_bind (lo_load a) fun v => by
    split
    · exact lo_loadBytes n _ _
    · exact lo_halt _
theorem liesAt_row {e u : TypeId} {count off n : Nat} (h1 : P.cellsOf e = 1) (hs : sameLayout P P.depth e u = true) (hfit : off + n ≤ count) : liesAt P P.depth e count off u n = true := by
  have hd : ∃ d, P.depth = d + 1 := ⟨2 * (P.types.size + Made.depth) + 1, rfl⟩
  obtain ⟨d, hd⟩ := hd
  have hrow : rowAt P (sameLayout P P.depth · u) P.depth e count off n = true := by
    generalize hff : (sameLayout P P.depth · u) = ff
    have hfe : ff e = true := by rw [← hff]; exact hs
    rw [hd]
    unfold rowAt
    simp [h1, Nat.mod_one, hfit, hfe]
  have : liesAt P (d + 1) e count off u n = true := by
    unfold liesAt
    rw [hrow]
    rfl
  rw [hd]; exact this
theorem heap_freeze (w : World) (a : Addr) (n : Nat) (k : Nat) (hk : k ≠ a.block) : (w.freeze a n).heap[k]? = w.heap[k]? := by
  unfold World.freeze
  split
  · rfl
  · simp only []
    rw [Array.getElem?_modify]
    simp [Ne.symm hk]
theorem same_freeze (w : World) (a : Addr) (n : Nat) : Same w (w.freeze a n) := by
  unfold World.freeze
  split
  · exact Same.refl w
  · exact ⟨rfl, rfl, rfl, by simp⟩
theorem heap_freeze_same {w : World} {a : Addr} {c : Array Value} {e : TypeId} {f1 f2 : Nat} (h : w.heap[a.block]? = some (.cells c e (f1, f2))) (n : Nat) (hn : n ≠ 0) :
    (w.freeze a n).heap[a.block]? = some (.cells c e (if f1 == f2 then (a.off, a.off + n) else (min f1 a.off, max f2 (a.off + n)))) := by
  unfold World.freeze
  rw [if_neg hn]
  simp only []
  rw [Array.getElem?_modify]
  simp [h]
theorem Rel.freeze {κ : K} {G : Nat → Option AObj} {w : World} (hr : Rel P κ G w) {id : Nat} {b : BI} {c : List Value} {e : TypeId} {lo hi : Nat} {ex : Bool} (hG : G id = some (.cells c e lo hi ex false)) (hb : κ id = some b) {off n : Nat} (hn : n ≠ 0) (hlh : lo ≤ hi) :
    Rel P κ (fun j => if j = id then some (.cells c e (cond (Nat.blt lo hi) (min lo off) off) (cond (Nat.blt lo hi) (max hi (off + n)) (off + n)) ex false) else G j) (w.freeze ⟨b.blk, b.sh + off, none⟩ n) := by
  obtain ⟨b', hb', ho1, ho2, ho3, c', ⟨f1, f2⟩, ⟨e', hc, het⟩, hsz, hcells, hfz0⟩ := hr.at_ id _ hG
  rw [het hlh] at hc
  have hfz := hfz0 hlh
  obtain rfl : b' = b := Option.some.inj (hb'.symm.trans hb)
  have hnew := heap_freeze_same (a := ⟨b'.blk, b'.sh + off, none⟩) hc n hn
  have hsm := (same_freeze w ⟨b'.blk, b'.sh + off, none⟩ n).size
  refine ⟨fun j o hj => ?_, fun j j' o o' x x' hj hj' hx hx' hblk hvw => ?_, fun j x hx => Nat.lt_of_lt_of_le (hr.old j x hx) hsm⟩
  · by_cases hji : j = id
    · subst hji
      simp only [if_true, Option.some.injEq] at hj
      subst hj
      refine ⟨b', hb, ho1, ho2, ho3, c', _, ⟨_, hnew, fun _ => rfl⟩, hsz, hcells, fun _ => .inr (.inr ⟨rfl, ?_, ?_, ?_⟩)⟩
      · cases hl : Nat.blt lo hi with
        | true => have := blt_lt hl; simp only [cond_true]; omega
        | false => simp only [cond_false]; omega
      · rcases hfz with hf | ⟨hf, _⟩ | ⟨_, h1, h2, h3⟩
        · simp only at hf
          subst hf
          simp only [beq_self_eq_true, if_true]
          cases hl : Nat.blt lo hi with
          | true => simp only [cond_true]; omega
          | false => simp only [cond_false]; omega
        · cases hf
        · have hl : Nat.blt lo hi = true := by rw [Nat.blt_eq]; exact h1
          simp only [hl, cond_true]
          split <;> simp only [] <;> omega
      · rcases hfz with hf | ⟨hf, _⟩ | ⟨_, h1, h2, h3⟩
        · simp only at hf
          subst hf
          simp only [beq_self_eq_true, if_true]
          cases hl : Nat.blt lo hi with
          | true => simp only [cond_true]; omega
          | false => simp only [cond_false]; omega
        · cases hf
        · have hl : Nat.blt lo hi = true := by rw [Nat.blt_eq]; exact h1
          simp only [hl, cond_true]
          split <;> simp only [] <;> omega
    · simp only [hji, if_false] at hj
      obtain ⟨x, hx, hin⟩ := hr.at_ j o hj
      refine ⟨x, hx, hin.heap (heap_freeze _ _ _ _ ?_)⟩
      intro heq
      exact hji (hr.one j id _ _ x b' hj hG hx hb heq (by rw [view_typed hlh, Bool.and_false]))
  · have f : ∀ j o, (if j = id then some (AObj.cells c e (cond (Nat.blt lo hi) (min lo off) off) (cond (Nat.blt lo hi) (max hi (off + n)) (off + n)) ex false) else G j) = some o → ∃ o1, G j = some o1 ∧ (o1.view = true → o.view = true) := by
      intro j o h
      by_cases hji : j = id
      · subst hji; exact ⟨_, hG, fun h => by rw [view_typed hlh] at h; cases h⟩
      · rw [if_neg hji] at h; exact ⟨_, h, fun h => h⟩
    obtain ⟨o1, h1, v1⟩ := f j o hj
    obtain ⟨o2, h2, v2⟩ := f j' o' hj'
    exact hr.one j j' o1 o2 x x' h1 h2 hx hx' hblk (view_and hvw v1 v2)

theorem Rel.mark {κ : K} {G : Nat → Option AObj} {w : World} (hr : Rel P κ G w) {id : Nat} {b : BI} {c : List Value} {e : TypeId} {lo hi : Nat} {ex st : Bool} (hG : G id = some (.cells c e lo hi ex st)) (hb : κ id = some b) (hok : st = true ∨ hi ≤ lo) (hlh : lo ≤ hi) :
    Rel P κ (fun j => if j = id then some (.cells c e 0 0 ex true) else G j) (w.freeze ⟨b.blk, b.tot, none⟩ 1) := by
  obtain ⟨b', hb', ho1, ho2, ho3, c', ⟨f1, f2⟩, ⟨e', hc, het⟩, hsz, hcells, hfz0⟩ := hr.at_ id _ hG
  rw [het hlh] at hc
  have hfz := hfz0 hlh
  obtain rfl : b' = b := Option.some.inj (hb'.symm.trans hb)
  have hnew := heap_freeze_same (a := ⟨b'.blk, b'.tot, none⟩) hc 1 (by decide)
  have hsm := (same_freeze w ⟨b'.blk, b'.tot, none⟩ 1).size
  refine ⟨fun j o hj => ?_, fun j j' o o' x x' hj hj' hx hx' hblk hvw => ?_, fun j x hx => Nat.lt_of_lt_of_le (hr.old j x hx) hsm⟩
  · by_cases hji : j = id
    · subst hji
      simp only [if_true, Option.some.injEq] at hj
      subst hj
      refine ⟨b', hb, ho1, ho2, ho3, c', _, ⟨_, hnew, fun _ => rfl⟩, hsz, hcells, fun _ => .inr (.inl ⟨rfl, ?_⟩)⟩
      rcases hfz with hf | ⟨_, hf⟩ | ⟨hst, hlt, _⟩
      · simp only at hf
        subst hf
        simp
      · cases hf
        simp
      · rcases hok with hok | hok
        · rw [hst] at hok; cases hok
        · omega
    · simp only [hji, if_false] at hj
      obtain ⟨x, hx, hin⟩ := hr.at_ j o hj
      refine ⟨x, hx, hin.heap (heap_freeze _ _ _ _ ?_)⟩
      intro heq
      exact hji (hr.one j id _ _ x b' hj hG hx hb heq (by rw [view_typed hlh, Bool.and_false]))
  · have f : ∀ j o, (if j = id then some (AObj.cells c e 0 0 ex true) else G j) = some o → ∃ o1, G j = some o1 ∧ (o1.view = true → o.view = true) := by
      intro j o h
      by_cases hji : j = id
      · subst hji; exact ⟨_, hG, fun h => by rw [view_typed hlh] at h; cases h⟩
      · rw [if_neg hji] at h; exact ⟨_, h, fun h => h⟩
    obtain ⟨o1, h1, v1⟩ := f j o hj
    obtain ⟨o2, h2, v2⟩ := f j' o' hj'
    exact hr.one j j' o1 o2 x x' h1 h2 hx hx' hblk (view_and hvw v1 v2)

theorem markA_sound {f : Fr} {o : Oper} {src dst : TypeId} {x : Operand} (ho : o.op = .convert src dst x) {h : AH} {v : Value} {h' : AH} (e : markA P src dst (f.eval x) h = some (v, h')) (wf : WF h) : OpAt P gl f o h v h' := by
  unfold markA at e
  split at e
  · rename_i e1 el ad n cp hs hd hv
    split at e
    · rename_i c e0 lo hi ex st hel hg
      cases hq : (Nat.ble lo hi && ((src == dst) && (st || Nat.ble hi lo) && small ad.block)) with
      | false => rw [hq] at e; cases e
      | true =>
        rw [hq] at e
        cases e
        simp only [Bool.and_eq_true, Bool.or_eq_true, Nat.ble_eq] at hq
        obtain ⟨hlh, ⟨q1, q2⟩, q3⟩ := hq
        refine ⟨⟨ext_put q3 _, wf_put wf q3 (wf.dom _ _ hg) _⟩, fun κ G a w K' Q hkg hrel hag hfs hρ hk => ?_⟩
        have hvr : VR κ (f.eval x) (a.eval x) := hρ x (by rw [ho]; simp [Op.operands])
        have hvr0 := hvr
        rw [hv] at hvr
        generalize hv' : a.eval x = v' at hvr hvr0
        cases hvr with
        | slice hsl =>
          rename_i a' c'
          have hGa : G ad.block = some (.cells c e0 lo hi ex st) := (hag ad.block (wf.dom _ _ hg) (by simp [AH.touched, wr_put])).trans hg
          obtain ⟨b, hb, ho1, ho2, ho3, cc, fz, ⟨e', hc, het⟩, hsz, _⟩ := hrel.at_ _ _ hGa
          rw [het hlh] at hc
          obtain ⟨h1, h2, b', hb', hblk, _⟩ := hsl
          obtain rfl : b' = b := Option.some.inj (hb'.symm.trans hb)
          have hsh : w.shape? b'.blk = some (e0, b'.tot) := by simp [World.shape?, hc, hsz]
          refine wp_of_gives (v' := .slice (some a') n c') (w' := w.freeze ⟨b'.blk, b'.tot, none⟩ 1) (.inl ?_) (hk κ _ _ hvr0 ?_ ?_)
          · have : (convert src dst (.slice (some a') n c')).run P w = .ok (.slice (some a') n c') (w.freeze ⟨b'.blk, b'.tot, none⟩ 1) := by
              simp [convert, run_underlying hs, run_underlying hd, run_underlying hel, q1, markStringish, hsh, hblk]
            simp [execOp, ho, hv', this]
          · have e1 := merge_put (G := G) wf (ext_put (h := h) q3 (.cells c e0 0 0 ex true)) hag q3 (.cells c e0 0 0 ex true)
            rw [e1]
            exact hrel.mark hGa hb q2 hlh
          · refine ⟨K.le_refl κ, fun _ _ => rfl, fun _ _ e => .inl e, fun q hq hn => heap_freeze _ _ _ _ ?_, same_freeze _ _ _⟩
            intro heq
            have := hn ad.block b' hb (by rw [heq])
            rw [wr_put] at this
            simp at this
    · cases e
  · cases e

theorem unsafeStringA_sound {f : Fr} {o : Oper} {c : Call} (ho : o.op = .call c) {x y : Operand} (hc : c.callee = .builtin .unsafeString) (hl : c.args.toList = [x, y]) {pt : TypeId} (hpt : c.argTypes[0]? = some pt) {h : AH} {v : Value} {h' : AH}
    (e : unsafeStringA P pt (f.eval x) (f.eval y) h = some (v, h')) (wf : WF h) : OpAt P gl f o h v h' := by
  unfold unsafeStringA at e
  split at e
  · rename_i ad k m u hx hy hu
    split at e
    · rename_i cs el lo hi ex hg hsp
      cases hq : (Nat.ble lo hi && Nat.blt 0 m && Nat.ble m 1099511627776 && Nat.beq (P.cellsOf el) 1 && sameLayout P P.depth el u && small ad.block && Nat.ble (ad.off + m) cs.length) with
      | false => rw [hq] at e; cases e
      | true =>
        rw [hq] at e
        simp only [cond_true] at e
        simp only [Bool.and_eq_true, beq_eq, decide_eq_true_eq, Nat.ble_eq] at hq
        obtain ⟨⟨⟨⟨⟨⟨hlh, q1⟩, q2⟩, q3⟩, q4⟩, q5⟩, q6⟩ := hq
        have hm0 : m ≠ 0 := by have := blt_lt q1; omega
        split at e
        · rename_i s h1 hld
          cases e
          have x1 := arun_ext P _ _ _ _ hld wf
          have hlo := lo_loadBytes (P := P) _ _ _ _ _ _ hld
          have hlt1 : ad.block < h1.n := by rw [hlo.2.1]; exact wf.dom _ _ hg
          refine ⟨⟨x1.1.trans (ext_put q5 _), wf_put x1.2 q5 hlt1 _⟩, fun κ G a w K' Q hkg hrel hag hfs hρ hk => ?_⟩
          have hl' : c.args = #[x, y] := by rw [← Array.toList_inj, hl]
          have hvx : VR κ (f.eval x) (a.eval x) := hρ x (by rw [ho]; simp [Op.operands, Call.operands, hl'])
          have hvy : VR κ (f.eval y) (a.eval y) := hρ y (by rw [ho]; simp [Op.operands, Call.operands, hl'])
          rw [hx] at hvx
          rw [hy] at hvy
          generalize hxx : a.eval x = x' at hvx
          generalize hyy : a.eval y = y' at hvy
          cases hvy with
          | int =>
            cases hvx with
            | ptr ha =>
              rename_i a'
              have hag1 : Agree h h1 G := hag.left (ext_put q5 _)
              have hGa : G ad.block = some (.cells cs el lo hi ex false) :=
                (hag ad.block (wf.dom _ _ hg) (by simp [AH.touched, wr_put])).trans hg
              obtain ⟨b, c', fz, r1, r2, r3, r4, r5, r6, r7, r8, r9⟩ := row_at hrel ha hlh hGa
              obtain ⟨s', hrun, hs'⟩ := read_sim (sr_loadBytes (κ := κ) m .empty κ (K.le_refl κ) ha) (lo_loadBytes _ _ _) (ro_loadBytes _ _ _) hld wf hrel hag1
              cases hs'
              have hlies : liesAt P P.depth el (b.tot / P.cellsOf el) a'.off u m = true := by
                refine liesAt_row q3 q4 ?_
                rw [q3, Nat.div_one, r2]
                show b.sh + ad.off + m ≤ b.tot
                omega
              have hmax : ¬ ((m : Int) > IntKind.i64.max) := by
                have : IntKind.i64.max = 9223372036854775807 := by decide
                rw [this]; omega
              have hR := hrel.freeze hGa r1 (off := ad.off) hm0 hlh
              refine wp_of_gives (v' := .string s) (w' := w.freeze a' m) (.inl ?_) (hk κ _ _ (.string s) ?_ ?_)
              · have hvar : (variablesAt a' u m).run P w = .ok true w := by
                  simp [variablesAt, r9, hlies]
                have hmm : ¬ ((m : Int) < 0) := by omega
                have hm0' : ¬ ((m : Int) = 0) := by omega
                have he0 : (elemOf pt).run P w = .ok u w := by simp [elemOf, run_underlying hu]
                have hus : (Builtin.unsafeString_ c.argTypes o.type #[.pointer (some a'), .int k (Int.ofNat m)]).run P w = .ok (.string s) (w.freeze a' m) := by
                  show (asInt (.int k (Int.ofNat m)) >>= _).run P w = _
                  simp [asInt, asIntOf, hpt, hmm, hm0, he0, hvar, hrun]
                  omega
                simp [execOp, ho, resolve, hc, hl', invoke, builtin, hxx, hyy]
                have := hus
                simp at this
                simp [this]
              · have e1 : merge h (h1.put ad.block (.cells cs el (cond (Nat.blt lo hi) (min lo ad.off) ad.off) (cond (Nat.blt lo hi) (max hi (ad.off + m)) (ad.off + m)) ex false)) G =
                    fun j => if j = ad.block then some (.cells cs el (cond (Nat.blt lo hi) (min lo ad.off) ad.off) (cond (Nat.blt lo hi) (max hi (ad.off + m)) (ad.off + m)) ex false) else G j := by
                  have hmr := merge_read wf hlo hag1
                  have := merge_put (G := G) x1.2 (ext_put (h := h1) q5 (.cells cs el (cond (Nat.blt lo hi) (min lo ad.off) ad.off) (cond (Nat.blt lo hi) (max hi (ad.off + m)) (ad.off + m)) ex false))
                    (by have := hag.right x1.1; rwa [hmr] at this) q5 (.cells cs el (cond (Nat.blt lo hi) (min lo ad.off) ad.off) (cond (Nat.blt lo hi) (max hi (ad.off + m)) (ad.off + m)) ex false)
                  rw [← this, ← merge_merge (G := G) x1.1 (ext_put q5 _), hmr]
                rw [e1, r2]
                exact hR
              · refine ⟨K.le_refl κ, fun _ _ => rfl, fun _ _ e => .inl e, fun q hq hn => heap_freeze _ _ _ _ ?_, same_freeze _ _ _⟩
                intro heq
                have := hn ad.block b r1 (by rw [heq, r2])
                rw [wr_put] at this
                simp at this
        · cases e
    · cases e
  · cases e

theorem special_sound : OpSound P gl (checked gl (special P)) := by
  refine checked_sound fun f o h v h' e wf => ?_
  unfold special at e
  split at e
  · rename_i src dst x ho
    split at e
    · rename_i r hr
      cases e
      exact convA_sound ho hr wf
    · exact markA_sound ho e wf
  · rename_i c ho
    split at e
    · rename_i x hc hl
      split at e
      · rename_i v0 hv
        cases e
        exact sliceDataA_sound ho hc hl hv wf
      · cases e
    · rename_i x y hc hl
      split at e
      · rename_i pt hpt
        exact unsafeStringA_sound ho hc hl hpt e wf
      · cases e
    · rename_i z hc
      split at e
      · rename_i g hz
        split at e
        · rename_i v0 hv
          cases e
          exact noEscapeA_sound ho hc hz hv wf
        · exact noZeroA_sound ho hc hz e wf
      · cases e
    · cases e
  · cases e
end
end Go.Ev
namespace Go.Ev
open Go

def ZF (info : TypeId → Option TypeInfo) : Prop := ∀ t i z, info t = some i → i.zero = some z → flatV z = true

theorem flatL_append (l m : List Value) : flatL (l ++ m) = (flatL l && flatL m) := by
  induction l with
  | nil => simp [flatL]
  | cons x l ih => simp [flatL, ih, Bool.and_assoc]
theorem flat_cells {v : Value} (h : flatV v = true) : flatL v.cells.toList = true := by
  cases v <;> first
    | (simp only [Value.cells]; exact h)
    | (simp [Value.cells, flatL]; exact h)
theorem flatL_flatten {l : List (Array Value)} (h : ∀ x ∈ l, flatL x.toList = true) : flatL (l.map Array.toList).flatten = true := by
  induction l with
  | nil => rfl
  | cons x l ih =>
    simp only [List.map_cons, List.flatten_cons, flatL_append, Bool.and_eq_true]
    exact ⟨h x (by simp), ih fun y hy => h y (by simp [hy])⟩

theorem forIn_inv {α σ : Type} (I : σ → Prop) {f : α → σ → Option (ForInStep σ)} (hstep : ∀ a s st, I s → f a s = some st → I st.value) : ∀ (xs : List α) (init r : σ), I init → forIn xs init f = some r → I r
  | [], init, r, h, e => by
    simp only [List.forIn_nil] at e
    cases e; exact h
  | x :: xs, init, r, h, e => by
    simp only [List.forIn_cons] at e
    cases hx : f x init with
    | none => rw [hx] at e; cases e
    | some st =>
      rw [hx] at e
      have hs := hstep _ _ _ h hx
      cases st with
      | done s => cases e; exact hs
      | yield s => exact forIn_inv I hstep xs s r hs e

theorem struct_flat {info : TypeId → Option TypeInfo} (hi : ZF info) {fs : Array Field} {i : TypeInfo} {z : Value} (h : Made.reckonStruct info fs = some i) (hz : i.zero = some z) : flatV z = true := by
  unfold Made.reckonStruct at h
  simp only [Option.pure_def, Option.bind_eq_bind, ← Array.forIn_toList, Option.bind_eq_some_iff] at h
  obtain ⟨s, hs, hr⟩ := h
  have zlem : ∀ (c : Prop) [Decidable c] (x : Option (Array Value)) (j : TypeInfo) (t : TypeId) (a : Array Value), info t = some j → (∀ a, x = some a → flatL a.toList = true) →
      (if c then none else x.bind fun u => j.zero.bind fun v => some (u ++ v.cells)) = some a → flatL a.toList = true := by
    intro c _ x j t a hj hx ha
    split at ha
    · cases ha
    · simp only [Option.bind_eq_some_iff, Option.some.injEq] at ha
      obtain ⟨u, hu, v, hv, rfl⟩ := ha
      rw [Array.toList_append, flatL_append, hx u hu, flat_cells (hi t j v hj hv)]
      rfl
  have hI := forIn_inv (fun s => ∀ a, s.2.2.2.2.2.2.2.1 = some a → flatL a.toList = true) (fun f s st hI hf => by
    simp only [Option.bind_eq_some_iff] at hf
    obtain ⟨j, hj, hf⟩ := hf
    intro a ha
    by_cases c1 : j.str.isEmpty = true
    · rw [if_pos c1] at hf; cases hf
    rw [if_neg c1] at hf
    by_cases c2 : f.embedded = true
    · rw [if_pos c2] at hf; cases hf
    rw [if_neg c2] at hf
    have fin : ∀ (tag : Option String) (g : String → Array Field × Nat × Nat × Nat × Nat × Bool × Bool × Option (Array Value) × String) (g' : String → Array Field × Nat × Nat × Nat × Nat × Bool × Bool × Option (Array Value) × String),
        (tag.bind fun t => if j.bytes = 0 then some (ForInStep.yield (g t)) else some (ForInStep.yield (g' t))) = some st →
        (∀ t a, (g t).2.2.2.2.2.2.2.1 = some a → flatL a.toList = true) → (∀ t a, (g' t).2.2.2.2.2.2.2.1 = some a → flatL a.toList = true) → flatL a.toList = true := by
      intro tag g g' e h1 h2
      cases tag with
      | none => cases e
      | some t =>
        simp only [Option.bind_some] at e
        split at e
        · cases e; exact h1 t a ha
        · cases e; exact h2 t a ha
    by_cases c3 : f.tag.isEmpty = true
    · rw [if_pos c3] at hf
      exact fin _ _ _ hf (fun t a ha => zlem _ _ _ _ a hj hI ha) (fun t a ha => zlem _ _ _ _ a hj hI ha)
    · rw [if_neg c3] at hf
      exact fin _ _ _ hf (fun t a ha => zlem _ _ _ _ a hj hI ha) (fun t a ha => zlem _ _ _ _ a hj hI ha)) _ _ _ (fun a ha => by cases ha; rfl) hs
  have key : ∀ (x : Option (Array Value)), (∀ a, x = some a → flatL a.toList = true) → x.map Value.agg = some z → flatV z = true := by
    intro x hx hm
    cases x with
    | none => cases hm
    | some a => cases hm; exact hx a rfl
  split at hr
  · cases hr; exact key _ hI hz
  · cases hr; exact key _ hI hz

theorem reckon_flat {info : TypeId → Option TypeInfo} (hi : ZF info) {d : TypeDesc} {i : TypeInfo} {z : Value} (h : Made.reckon info d = some i) (hz : i.zero = some z) : flatV z = true := by
  unfold Made.reckon at h
  cases d with
  | pointer e =>
    simp only [Option.bind_eq_bind, Option.bind_eq_some_iff] at h
    obtain ⟨j, _, h⟩ := h
    split at h
    · cases h
    · split at h
      · cases h
      · simp only [Option.pure_def, Option.bind_eq_some_iff, Option.some.injEq] at h
        obtain ⟨s, _, rfl⟩ := h
        cases hz; rfl
    · simp only [Option.pure_def, Option.bind_eq_some_iff, Option.some.injEq] at h
      obtain ⟨s, _, rfl⟩ := h
      cases hz; rfl
  | slice e =>
    simp only [Option.pure_def, Option.bind_eq_bind, Option.bind_eq_some_iff, Option.some.injEq] at h
    obtain ⟨_, _, _, _, rfl⟩ := h
    cases hz; rfl
  | map k e =>
    simp only [Option.pure_def, Option.bind_eq_bind, Option.bind_eq_some_iff, Option.some.injEq] at h
    obtain ⟨_, _, _, _, _, _, _, _, rfl⟩ := h
    cases hz; rfl
  | chan dr e =>
    simp only [Option.pure_def, Option.bind_eq_bind, Option.bind_eq_some_iff, Option.some.injEq] at h
    obtain ⟨_, _, _, _, rfl⟩ := h
    cases hz; rfl
  | func ps rs v =>
    simp only [Option.pure_def, Option.bind_eq_bind, Option.bind_eq_some_iff, Option.some.injEq] at h
    obtain ⟨_, _, rfl⟩ := h
    cases hz; rfl
  | array n e =>
    simp only [Option.pure_def, Option.bind_eq_bind, Option.bind_eq_some_iff, Option.some.injEq] at h
    obtain ⟨j, hj, _, _, rfl⟩ := h
    simp only [] at hz
    split at hz
    · cases hz
    · split at hz
      · cases hz; rfl
      · simp only [Option.map_eq_some_iff] at hz
        obtain ⟨y, hy, rfl⟩ := hz
        show flatL (Array.flatten (Array.replicate n y.cells)).toList = true
        rw [Array.toList_flatten]
        refine flatL_flatten fun x hx => ?_
        have : x = y.cells := by
          have := List.eq_of_mem_replicate (by simpa using hx : x ∈ List.replicate n y.cells)
          exact this
        rw [this]
        exact flat_cells (hi e j y hj hy)
  | struct fs => exact struct_flat hi h hz
  | _ => cases h

/-- The types' zeros bear no address: told by looking. -/
def zerosFlat (P : Program) : Bool := P.types.toList.all fun i => match i.zero with
  | some z => flatV z
  | none => true
theorem zerosFlat_spec {P : Program} (h : zerosFlat P = true) : ZerosFlat P := by
  have htab : ∀ (t : Nat) (i : TypeInfo) (z : Value), P.types[t]? = some i → i.zero = some z → flatV z = true := by
    intro t i z ht hz
    have hm : i ∈ P.types.toList := by simpa using Array.mem_of_getElem? ht
    have := List.all_eq_true.1 h i hm
    rw [hz] at this
    exact this
  have hmade : ∀ n, ZF (Made.infoAt P.toTables n) := by
    intro n
    induction n with
    | zero => intro t i z ht; cases ht
    | succ n ih =>
      intro t i z ht hz
      unfold Made.infoAt at ht
      split at ht
      · exact htab t i z ht hz
      · simp only [Option.bind_eq_some_iff] at ht
        obtain ⟨d, _, hd⟩ := ht
        exact reckon_flat ih hd hz
  intro t i z ht hz
  unfold Tables.info? at ht
  split at ht
  · exact htab t i z ht hz
  · exact hmade _ t i z ht hz
end Go.Ev
namespace Go.Ev
open Go Go.RowKit

/-- The evaluator, so many steps deep: code, functions, a deferred function's code, deferred calls. -/
noncomputable def run (P : Program) (gl : Nat) (sp : OpEv) (n : Nat) : RecC × RecF × RecS × RecD :=
  Nat.rec (fun _ _ _ => none, fun _ _ _ => none, fun _ _ _ _ => none, fun _ _ _ _ => none)
    (fun _ r => (stepC P gl (orEv (aop P gl r.2.1) sp) r.2.1 r.1, stepF P r.1 r.2.2.2, stepS P gl (orEv (aop P gl r.2.1) sp) r.2.1 r.1 r.2.2.1, stepD P r.2.2.1)) n
/-- A call over no heap but numbers of blocks: what it comes to, where it does not write. -/
noncomputable def evals (P : Program) (gl m n : Nat) (g : FuncId) (args : List Value) (p : Value → Bool) : Bool :=
  match (run P gl (checked gl (special P)) n).2.1 g args ⟨.nil, m, 0, 0⟩ with
  | some (.ret v, h) => flatV v && p v && Nat.beq (Nat.land h.wr (2 ^ m - 1)) 0
  | _ => false
section
variable {P : Program} {gl : Nat} {sp : OpEv}
theorem run_sound (hz : ZerosFlat P) (hm : P.follows .mixedOrders = true) (hsp : OpSound P gl sp) : ∀ n, CodeSound P gl (run P gl sp n).1 ∧ CallSound P gl (run P gl sp n).2.1 ∧ SoundS P gl (run P gl sp n).2.2.1 ∧ DeferSound P gl (run P gl sp n).2.2.2
  | 0 => ⟨fun _ _ _ _ _ _ e => (by cases e), fun _ _ _ _ _ e => (by cases e), fun _ _ _ _ _ _ _ _ e => (by cases e), fun _ _ _ _ _ _ e => (by cases e)⟩
  | n + 1 => by
    obtain ⟨h1, h2, h3, h4⟩ := run_sound hz hm hsp n
    have hev := (aop_sound hz h2).or hsp
    exact ⟨stepC_sound hm hev h2 h1, stepF_sound h1 h4, stepS_sound hev h2 h1 h3, stepD_sound h3⟩

theorem low_bits {x m : Nat} (h : Nat.land x (2 ^ m - 1) = 0) {i : Nat} (hi : i < m) : x.testBit i = false := by
  have h1 : (x &&& (2 ^ m - 1)).testBit i = false := by
    have : x &&& (2 ^ m - 1) = 0 := h
    rw [this]; simp
  rw [Nat.testBit_and, Nat.testBit_two_pow_sub_one] at h1
  simpa [hi] using h1

theorem evals_calls (hz : zerosFlat P = true) (hm : P.follows .mixedOrders = true) {m n : Nat} {g : FuncId} {args : List Value} {p : Value → Bool} (e : evals P gl m n g args p = true)
    {κ : K} {args' : Array Value} {w : World} (hg : KG gl κ) (hold : ∀ id b, κ id = some b → b.blk < w.heap.size ∧ id < m) (hargs : VL κ args args'.toList) :
    Calls P g args' w fun e w' => ∃ v, e = .returned v ∧ p v = true ∧ Below w.heap.size w w' := by
  unfold evals at e
  split at e
  · rename_i v h he
    simp only [Bool.and_eq_true, beq_eq, decide_eq_true_eq] at e
    obtain ⟨⟨e1, e2⟩, e3⟩ := e
    have hwf : WF ⟨.nil, m, 0, 0⟩ := ⟨fun id o h => (by cases h), fun id h => (by simp at h)⟩
    have hs := (run_sound (zerosFlat_spec hz) hm special_sound n).2.1 g args _ _ h he hwf
    have hrel : Rel P κ (fun _ => none) w := ⟨fun id o h => (by cases h), fun id id' o o' b b' h => (by cases h), fun id b h => (hold id b h).1⟩
    refine (hs.2 κ (fun _ => none) args' w hg hrel hargs (fun id _ _ => rfl) (fun id hid _ => ⟨rfl, ?_⟩)).mono fun en w' hen => ?_
    · cases hk : κ id with
      | none => rfl
      | some b => have := (hold id b hk).2; exact absurd hid (by show ¬ m ≤ id; omega)
    · obtain ⟨κ', hend, _, hkx⟩ := hen
      cases hend with
      | ret hv =>
      rename_i v'
      refine ⟨v', rfl, by rw [VR.eq_of_flat hv e1]; exact e2, hkx.same.os, hkx.same.tape, hkx.same.output, hkx.same.size, fun k hk => hkx.keep k hk fun id b hb hbk => low_bits e3 (hold id b hb).2⟩
  · cases e

def kg (gl : Nat) : K := fun id => cond (Nat.blt id gl) (some ⟨id, 0, 0, true, 0⟩) none
theorem kg_KG (gl : Nat) : KG gl (kg gl) := fun g hg => ⟨⟨g, 0, 0, true, 0⟩, by unfold kg; rw [show Nat.blt g gl = true by rw [Nat.blt_eq]; exact hg]; rfl, rfl, rfl⟩
theorem kg_old {gl N : Nat} (h : gl ≤ N) : ∀ id b, kg gl id = some b → b.blk < N ∧ id < gl := by
  intro id b hb
  unfold kg at hb
  cases hq : Nat.blt id gl with
  | false => rw [hq] at hb; cases hb
  | true => rw [hq] at hb; cases hb; have := blt_lt hq; exact ⟨by show id < N; omega, this⟩
/-- A closed call. -/
theorem evals_closed (hz : zerosFlat P = true) (hm : P.follows .mixedOrders = true) {n : Nat} {g : FuncId} {args : List Value} {p : Value → Bool} (e : evals P gl gl n g args p = true) (hf : flatL args = true) {w : World} (hsz : gl ≤ w.heap.size) :
    Calls P g ⟨args⟩ w fun e w' => ∃ v, e = .returned v ∧ p v = true ∧ Below w.heap.size w w' :=
  evals_calls hz hm e (kg_KG gl) (kg_old hsz) (VL.flat args hf)
end
end Go.Ev
namespace Go.Ev
open Go Go.RowKit

/-! ### single calls, single pieces of code -/

def CTup (P : Program) (gl : Nat) (g : FuncId) (args : List Value) (h : AH) (en : AEnd) (h' : AH) : Prop := WF h → (Ext h h' ∧ WF h') ∧
  ∀ (κ : K) (G : Nat → Option AObj) (args' : Array Value) (w : World), KG gl κ → Rel P κ G w → VL κ args args'.toList → Agree h h' G → Fresh h h' κ G →
    Calls P g args' w fun e w' => ∃ κ', EndR κ' en e ∧ Rel P κ' (merge h h' G) w' ∧ KX h h' κ κ' w w'
def LTup (P : Program) (gl : Nat) (c : Code) (f : Fr) (h : AH) (ex : AExit) (f' : Fr) (h' : AH) : Prop := WF h → small f.n = true → (Ext h h' ∧ WF h' ∧ f'.n = f.n) ∧
  ∀ (κ : K) (G : Nat → Option AObj) (a : Act) (w : World) (n0 : Nat) (Q : Exit → Act → World → Prop), KG gl κ → Rel P κ G w → FrR κ f a → DfR P κ w n0 f.ds a.defers → n0 ≤ w.heap.size → Agree h h' G → Fresh h h' κ G →
    (∀ κ' ex' a' w', ExR κ' ex ex' → Rel P κ' (merge h h' G) w' → FrR κ' f' a' → DfR P κ' w' n0 f'.ds a'.defers → KX h h' κ κ' w w' → Q ex' a' w') → c.wp P Q a w
theorem CallSound.tup {P : Program} {gl : Nat} {F : RecF} (h : CallSound P gl F) {g : FuncId} {args : List Value} {h0 : AH} {en : AEnd} {h1 : AH} (e : F g args h0 = some (en, h1)) : CTup P gl g args h0 en h1 := fun wf => h g args h0 en h1 e wf
theorem CodeSound.tup {P : Program} {gl : Nat} {C : RecC} (h : CodeSound P gl C) {c : Code} {f : Fr} {h0 : AH} {ex : AExit} {f1 : Fr} {h1 : AH} (e : C c f h0 = some (ex, f1, h1)) : LTup P gl c f h0 ex f1 h1 := fun wf hs => h c f h0 ex f1 h1 e wf hs

/-! ### operations -/

abbrev sp0 (P : Program) (gl : Nat) : OpEv := checked gl (special P)
def noF : RecF := fun _ _ _ => none
/-- The operations, special ones first. -/
abbrev evR (P : Program) (gl : Nat) (F : RecF) : OpEv := orEv (sp0 P gl) (aop P gl F)
def isCall (P : Program) (f : Fr) (o : Oper) : Option (FuncId × List Value) :=
  match o.op with
  | .call c => match c.callee with
    | .builtin _ => none
    | _ => calleeA P f.eval c
  | _ => none
theorem aop_noCall {P : Program} {gl : Nat} {f : Fr} {o : Oper} (h : isCall P f o = none) (F : RecF) (hp : AH) : aop P gl F f o hp = aop P gl noF f o hp := by
  unfold isCall at h
  unfold aop
  cases o.op.operands.toList.all (operandOk gl) with
  | false => rfl
  | true =>
    simp only [cond_true]
    split
    · rename_i c ho
      rw [ho] at h
      simp only [] at h
      split
      · rfl
      · rfl
      · rename_i hb1 hb2
        have hc : calleeA P f.eval c = none := by
          split at h
          · rename_i b hb; exact absurd hb (hb2 b)
          · exact h
        rw [hc]
    · rfl
    · rfl
theorem aop_call {P : Program} {gl : Nat} {f : Fr} {o : Oper} {g : FuncId} {args : List Value} (h : isCall P f o = some (g, args)) (F : RecF) (hp : AH) :
    aop P gl F f o hp = cond (o.op.operands.toList.all (operandOk gl)) (match F g args hp with
      | some (.ret v, h1) => some (v, h1)
      | _ => none) none := by
  unfold isCall at h
  unfold aop
  split at h
  · rename_i c ho
    split at h
    · cases h
    · rename_i hb
      rw [ho]
      simp only []
      congr 1
      split
      · rename_i hc; exact absurd hc (hb _)
      · rename_i b hc; exact absurd hc (hb _)
      · rw [h]; rfl
  · cases h

def All (ps : List Prop) : Prop := ∀ p ∈ ps, p
/-- A way to reckon an operation, under what it asks. -/
structure OpRule where
  run : Program → Nat → Fr → Oper → AH → Option ((Value × AH) × List Prop)
  ok : ∀ P gl f o h r ps, isCall P f o = none → run P gl f o h = some (r, ps) → All ps → evR P gl noF f o h = some r
inductive OpHint where
  | bool (t : Bool)
  | int (x : Int)
  | op (c : OpRule)
/-- What came out, with what was told of it put in its place. -/
def refineH (x : Option OpHint) (r : (Value × AH) × List Prop) : Option ((Value × AH) × List Prop) :=
  match x with
  | none => some r
  | some (.bool t) => match r with
    | ((.bool b, h1), ps) => some ((.bool t, h1), (b = t) :: ps)
    | _ => none
  | some (.int x) => match r with
    | ((.int k n, h1), ps) => some ((.int k x, h1), (n = x) :: ps)
    | _ => none
  | some (.op _) => none

/-! ### hints -/

structure Hints where
  op : FuncId → Nat → Option OpHint
  call : FuncId → List Value → AH → Option ((AEnd × AH) × List Prop)
  block : FuncId → Nat → Code → Fr → AH → Option ((AExit × Fr × AH) × List Prop)
def Hints.none : Hints := ⟨fun _ _ => .none, fun _ _ _ => .none, fun _ _ _ _ _ => .none⟩
abbrev PO (α : Type) := Option (α × List Prop)
abbrev RecCH := Code → Fr → AH → PO (AExit × Fr × AH)
abbrev RecFH := FuncId → List Value → AH → PO (AEnd × AH)
/-- A store has no slot of its own: it is told by its place's, and a million more. -/
def hintAt (H : Hints) (cur : FuncId) (o : Oper) : Option OpHint := match o.dst with
  | some s => H.op cur s
  | none => match o.op with
    | .store _ (.tmp s) _ => H.op cur (1000000 + s)
    | _ => none
section
variable (P : Program) (gl : Nat) (H : Hints) (cur : FuncId) (recF : RecFH)
/-- An operation as it is reckoned, ahead of what is told of it. -/
def baseH (f : Fr) (o : Oper) (h : AH) : PO (Value × AH) :=
  match isCall P f o with
  | some (g, args) => match sp0 P gl f o h with
    | some r => some (r, [])
    | none => cond (o.op.operands.toList.all (operandOk gl)) (match recF g args h with
      | some ((.ret v, h1), ps) => some ((v, h1), ps)
      | _ => none) none
  | none => match evR P gl noF f o h with
    | some r => some (r, [])
    | none => none
def evH (f : Fr) (o : Oper) (h : AH) : PO (Value × AH) :=
  match hintAt H cur o with
  | some (.op c) => match isCall P f o with
    | some _ => none
    | none => c.run P gl f o h
  | x => match baseH P gl recF f o h with
    | some r => refineH x r
    | none => none
def oneH (f : Fr) (o : Oper) (h : AH) : PO (AExit × Fr × AH) :=
  match evH P gl H cur recF f o h with
  | some ((v, h1), ps) => some ((.normal, f.put o.dst v, h1), ps)
  | none => cond (o.op.operands.toList.all (operandOk gl)) (match isCall P f o with
    | some (g, args) => match sp0 P gl f o h with
      | some _ => none
      | none => match recF g args h with
        | some ((.pan v, h1), ps) => some ((.panic v, f, h1), ps)
        | _ => none
    | none => match hintAt H cur o, evR P gl noF f o h, actA P noF o f h with
      | none, none, some r => some (r, [])
      | _, _, _ => none) none
def runH (ops : Array Oper) : List Nat → Fr → AH → PO (AExit × Fr × AH)
  | [], f, h => some ((.normal, f, h), [])
  | i :: l, f, h => match ops[i]? with
    | none => runH ops l f h
    | some o => cond (Region.wanted o (yieldedA ops f))
      (match oneH P gl H cur recF f o h with
        | some ((.normal, f1, h1), ps) => match runH ops l f1 h1 with
          | some (r, qs) => some (r, ps ++ qs)
          | none => none
        | r => r)
      (runH ops l (f.put o.dst undef) h)
def stepOpH (ops : Array Oper) (i : Nat) (f : Fr) (h : AH) : PO (Fr × AH) :=
  match ops[i]? with
  | none => some ((f, h), [])
  | some o =>
    cond (Region.wanted o (yieldedA ops f))
      (match evH P gl H cur recF f o h with
        | some ((v, h1), ps) => some ((f.put o.dst v, h1), ps)
        | none => none)
      (some ((f.put o.dst undef, h), []))
def drawOpsH (ops : Array Oper) : Nat → Nat → Fr → AH → PO (Fr × AH × List (Nat × Nat))
  | 0, _, f, h => some ((f, h, []), [])
  | k + 1, i, f, h =>
    match stepOpH P gl H cur recF ops i f (zeroB h) with
    | some ((f1, h1), ps) => match drawOpsH ops k (i + 1) f1 (orB h h1) with
      | some ((f2, h2, l), qs) => some ((f2, h2, footOf h h1 :: l), ps ++ qs)
      | none => none
    | none => none
def regionH (ops : Array Oper) (f : Fr) (h : AH) : PO (AExit × Fr × AH) :=
  match regionPlan ops with
  | some pl => match drawOpsH P gl H cur recF ops ops.size 0 f h with
    | some ((f', h', l), ps) => cond (drawOk pl l && Region.noSelect ops) (some ((.normal, { t := f'.t, n := f'.n, ds := f.ds }, h'), ps)) none
    | none => none
  | none => none
variable (rec : RecCH)
def loopH (c : Code) : Nat → Fr → AH → PO (AExit × Fr × AH)
  | 0, _, _ => none
  | n + 1, f, h => match rec c f h with
    | some ((.normal, f1, h1), ps) => match loopH c n f1 h1 with
      | some (r, qs) => some (r, ps ++ qs)
      | none => none
    | r => r
def scopeH (body : Code) : Nat → Code → Fr → AH → PO (AExit × Fr × AH)
  | 0, _, _, _ => none
  | n + 1, c, f, h => match rec c f h with
    | some ((.goto l, f1, h1), ps) => match findLabel body l with
      | some rest => match scopeH body n rest f1 h1 with
        | some (r, qs) => some (r, ps ++ qs)
        | none => none
      | none => some ((.goto l, f1, h1), ps)
    | r => r
def stepCH : RecCH
  | .skip, f, h => some ((.normal, f, h), [])
  | .label _, f, h => some ((.normal, f, h), [])
  | .seq a b, f, h => match rec a f h with
    | some ((.normal, f1, h1), ps) => match rec b f1 h1 with
      | some (r, qs) => some (r, ps ++ qs)
      | none => none
    | r => r
  | .cond c x y, f, h => cond (operandOk gl c) (match f.eval c with
      | .bool true => rec x f h
      | .bool false => rec y f h
      | _ => none) none
  | .block id c, f, h => match H.block cur id c f h with
    | some r => some r
    | none => match rec c f h with
      | some ((.exit id', f1, h1), ps) => some ((cond (Nat.beq id' id) .normal (.exit id'), f1, h1), ps)
      | r => r
  | .loop c, f, h => loopH rec c rounds f h
  | .exit id, f, h => some ((.exit id, f, h), [])
  | .goto l, f, h => some ((.goto l, f, h), [])
  | .ret, f, h => some ((.ret, f, h), [])
  | .scope body, f, h => scopeH rec body rounds body f h
  | .region _ ops draw, f, h => cond draw (regionH P gl H cur recF ops f h) (runH P gl H cur recF ops (List.range ops.size) f h)
  | .rangeFunc _ _ _ _, _, _ => none
  | .refuse _, _, _ => none
def stepFH (rec : FuncId → RecCH) (recD : RecD) : RecFH := fun g args h =>
  match H.call g args h with
  | some r => some r
  | none => match P.funcs[g]? with
    | none => none
    | some fn => match fn.body with
      | none => none
      | some c =>
        cond (small (args.length + (fn.ntmps - args.length)))
          (match rec g c { t := ofArgs args 0 .nil, n := args.length + (fn.ntmps - args.length) } h with
            | some ((.normal, f', h1), ps) | some ((.ret, f', h1), ps) => match leaveA P recD fn f'.get f'.ds .ret h1 with
              | some r => some (r, ps)
              | none => none
            | some ((.panic v, f', h1), ps) => match leaveA P recD fn f'.get f'.ds (.pan v false) h1 with
              | some r => some (r, ps)
              | none => none
            | _ => none) none
end
/-- The run with hints, so many steps deep. -/
noncomputable def runHR (P : Program) (gl : Nat) (H : Hints) (n : Nat) : (FuncId → RecCH) × RecFH :=
  Nat.rec (fun _ _ _ _ => none, fun _ _ _ => none)
    (fun m r => (fun cur => stepCH P gl H cur r.2 (r.1 cur), stepFH P H r.1 (run P gl (sp0 P gl) m).2.2.2)) n
end Go.Ev
namespace Go.Ev
open Go Go.RowKit

structure Hints.Ok (H : Hints) (P : Program) (gl : Nat) : Prop where
  call : ∀ g args h en h1 pre, H.call g args h = some ((en, h1), pre) → All pre → CTup P gl g args h en h1
  block : ∀ g id c f h ex f1 h1 pre, H.block g id c f h = some ((ex, f1, h1), pre) → All pre → LTup P gl (.block id c) f h ex f1 h1

open Classical in
noncomputable def ovF (H : Hints) (F : RecF) : RecF := fun g args h => match H.call g args h with
  | some (r, pre) => if All pre then some r else F g args h
  | none => F g args h
open Classical in
noncomputable def ovC (H : Hints) (cur : FuncId) (C : RecC) : RecC := fun code f h => match code with
  | .block id c => match H.block cur id c f h with
    | some (r, pre) => if All pre then some r else C (.block id c) f h
    | none => C (.block id c) f h
  | c => C c f h
section
variable {P : Program} {gl : Nat} {H : Hints}
theorem ovF_sound (hH : H.Ok P gl) {F : RecF} (hF : CallSound P gl F) : CallSound P gl (ovF H F) := by
  intro g args h en h' e wf
  unfold ovF at e
  split at e
  · rename_i r pre hr
    split at e
    · rename_i hp; cases e; exact hH.call g args h en h' pre hr hp wf
    · exact hF g args h en h' e wf
  · exact hF g args h en h' e wf
theorem ovC_sound (hH : H.Ok P gl) {cur : FuncId} {C : RecC} (hC : CodeSound P gl C) : CodeSound P gl (ovC H cur C) := by
  intro code f h ex f' h' e wf hs
  unfold ovC at e
  split at e
  · split at e
    · rename_i r pre hr
      split at e
      · rename_i hp; cases e; exact hH.block _ _ _ f h ex f' h' pre hr hp wf hs
      · exact hC _ f h ex f' h' e wf hs
    · exact hC _ f h ex f' h' e wf hs
  · exact hC _ f h ex f' h' e wf hs

noncomputable def realR (P : Program) (gl : Nat) (H : Hints) (n : Nat) : (FuncId → RecC) × RecF :=
  Nat.rec (fun _ _ _ _ => none, fun _ _ _ => none)
    (fun m r => (fun cur => ovC H cur (stepC P gl (evR P gl r.2) r.2 (r.1 cur)), ovF H fun g args h => stepF P (r.1 g) (run P gl (sp0 P gl) m).2.2.2 g args h)) n
theorem realR_sound (hz : ZerosFlat P) (hm : P.follows .mixedOrders = true) (hH : H.Ok P gl) : ∀ n, (∀ cur, CodeSound P gl ((realR P gl H n).1 cur)) ∧ CallSound P gl (realR P gl H n).2
  | 0 => ⟨fun _ _ _ _ _ _ _ e => (by cases e), fun _ _ _ _ _ e => (by cases e)⟩
  | n + 1 => by
    obtain ⟨h1, h2⟩ := realR_sound hz hm hH n
    obtain ⟨_, _, _, h4⟩ := run_sound hz hm (special_sound (P := P) (gl := gl)) n
    have hev : OpSound P gl (evR P gl (realR P gl H n).2) := special_sound.or (aop_sound hz h2)
    refine ⟨fun cur => ovC_sound hH (stepC_sound hm hev h2 (h1 cur)), ovF_sound hH fun g args h en h' e wf => ?_⟩
    exact stepF_sound (h1 g) h4 g args h en h' e wf

theorem All.left {ps qs : List Prop} (h : All (ps ++ qs)) : All ps := fun p hp => h p (by simp [hp])
theorem All.right {ps qs : List Prop} (h : All (ps ++ qs)) : All qs := fun p hp => h p (by simp [hp])
theorem All.one {p : Prop} (h : All [p]) : p := h p (by simp)

variable {cur : FuncId} {F : RecF} {FH : RecFH} {C : RecC} {CH : RecCH}
def AgF (F : RecF) (FH : RecFH) : Prop := ∀ g args h r ps, FH g args h = some (r, ps) → All ps → F g args h = some r
def AgC (C : RecC) (CH : RecCH) : Prop := ∀ c f h r ps, CH c f h = some (r, ps) → All ps → C c f h = some r

theorem noCall_key {f : Fr} {o : Oper} {h : AH} (hc : isCall P f o = none) {r : Value × AH} (hr : evR P gl noF f o h = some r) : evR P gl F f o h = some r := by
  unfold evR orEv at hr ⊢
  rw [aop_noCall hc F]; exact hr
theorem baseH_eq (hF : AgF F FH) {f : Fr} {o : Oper} {h : AH} {r : Value × AH} {ps : List Prop} (e : baseH P gl FH f o h = some (r, ps)) (hp : All ps) : evR P gl F f o h = some r := by
  unfold baseH at e
  split at e
  · rename_i g args hc
    unfold evR orEv
    split at e
    · rename_i r' hs; cases e; rw [hs]
    · rename_i hs
      rw [hs]
      simp only []
      rw [aop_call hc]
      cases hok : o.op.operands.toList.all (operandOk gl) with
      | false => rw [hok] at e; cases e
      | true =>
        rw [hok] at e
        simp only [cond_true] at e ⊢
        split at e
        · rename_i v h1 qs hf; cases e; rw [hF _ _ _ _ _ hf hp]
        · cases e
  · rename_i hc
    split at e
    · rename_i hr; cases e; exact noCall_key hc hr
    · cases e
theorem evH_eq (hF : AgF F FH) {f : Fr} {o : Oper} {h : AH} {r : Value × AH} {ps : List Prop} (e : evH P gl H cur FH f o h = some (r, ps)) (hp : All ps) : evR P gl F f o h = some r := by
  unfold evH at e
  split at e
  · rename_i c hh
    split at e
    · cases e
    · rename_i hc
      exact noCall_key hc (c.ok _ _ _ _ _ _ _ hc e hp)
  · split at e
    · rename_i r0 hb
      obtain ⟨⟨v0, h0⟩, qs⟩ := r0
      unfold refineH at e
      split at e
      · cases e; exact baseH_eq hF hb hp
      · split at e
        · rename_i b h1 ps' heq
          cases heq
          cases e
          have hb1 := hp _ (List.mem_cons_self ..)
          rw [baseH_eq hF hb fun p hq => hp p (List.mem_cons_of_mem _ hq), hb1]
        · cases e
      · split at e
        · rename_i k n h1 ps' heq
          cases heq
          cases e
          have hb1 := hp _ (List.mem_cons_self ..)
          rw [baseH_eq hF hb fun p hq => hp p (List.mem_cons_of_mem _ hq), hb1]
        · cases e
      · cases e
    · cases e
theorem evH_none {f : Fr} {o : Oper} {h : AH} (hc : isCall P f o = none) (e : evR P gl noF f o h = none) : evR P gl F f o h = none := by
  unfold evR orEv at e ⊢
  rw [aop_noCall hc F]; exact e
theorem actA_noCall {f : Fr} {o : Oper} (h : isCall P f o = none) (hp : AH) : actA P F o f hp = actA P noF o f hp := by
  unfold isCall at h
  unfold actA
  split
  · rfl
  · rfl
  · rename_i c ho
    rw [ho] at h
    simp only [] at h
    split
    · rfl
    · rename_i hb
      split at h
      · rename_i b hbb
        have : calleeA P f.eval c = none := by unfold calleeA; rw [hbb]
        rw [this]
      · rw [h]
  · rfl
theorem oneH_eq (hF : AgF F FH) {f : Fr} {o : Oper} {h : AH} {r : AExit × Fr × AH} {ps : List Prop} (e : oneH P gl H cur FH f o h = some (r, ps)) (hp : All ps) : oneA P gl F (evR P gl F) o f h = some r := by
  unfold oneH at e
  unfold oneA
  split at e
  · rename_i v h1 qs he
    cases e
    rw [evH_eq hF he hp]
  · cases hok : o.op.operands.toList.all (operandOk gl) with
    | false => rw [hok] at e; cases e
    | true =>
      rw [hok] at e
      simp only [cond_true] at e
      split at e
      · rename_i g args hc
        split at e
        · cases e
        · rename_i hs
          split at e
          · rename_i v h1 qs hf
            cases e
            have hf' := hF _ _ _ _ _ hf hp
            have hn : evR P gl F f o h = none := by
              unfold evR orEv; rw [hs]; simp only []; rw [aop_call hc, hok, hf']; rfl
            rw [hn]
            simp only [cond_true]
            unfold isCall at hc
            unfold actA
            split at hc
            · rename_i c ho
              rw [ho]
              split at hc
              · cases hc
              · rename_i hb
                simp only []
                split
                · rename_i hcc; exact absurd hcc (hb _)
                · rw [hc]; simp only []; rw [hf']
            · cases hc
          · cases e
      · rename_i hc
        split at e
        · rename_i r' hh hev hact
          cases e
          rw [evH_none hc hev]
          simp only [cond_true]
          rw [actA_noCall hc]; exact hact
        · cases e
theorem runH_eq (hF : AgF F FH) {ops : Array Oper} : ∀ (l : List Nat) (f : Fr) (h : AH) (r : AExit × Fr × AH) (ps : List Prop), runH P gl H cur FH ops l f h = some (r, ps) → All ps → runA P gl F (evR P gl F) ops l f h = some r
  | [], f, h, r, ps, e, hp => by cases e; rfl
  | i :: l, f, h, r, ps, e, hp => by
    simp only [runH] at e
    simp only [runA]
    split at e
    · rename_i ho
      rw [ho]
      exact runH_eq hF l f h r ps e hp
    · rename_i o ho
      rw [ho]
      simp only []
      cases hw : Region.wanted o (yieldedA ops f) with
      | false => rw [hw] at e; exact runH_eq hF l _ h r ps e hp
      | true =>
        rw [hw] at e
        simp only [cond_true] at e ⊢
        split at e
        · rename_i f1 h1 qs h1e
          split at e
          · rename_i r2 q2 h2e
            cases e
            rw [oneH_eq hF h1e hp.left]
            exact runH_eq hF l f1 h1 _ _ h2e hp.right
          · cases e
        · rename_i hne
          have := oneH_eq hF e hp
          rw [this]
          obtain ⟨x, y, z⟩ := r
          cases x with
          | normal => exact absurd e (hne y z ps)
          | _ => rfl
theorem stepOpH_eq (hF : AgF F FH) {ops : Array Oper} {i : Nat} {f : Fr} {h : AH} {r : Fr × AH} {ps : List Prop} (e : stepOpH P gl H cur FH ops i f h = some (r, ps)) (hp : All ps) : stepOp (evR P gl F) ops i f h = some r := by
  unfold stepOpH at e
  unfold stepOp
  split at e
  · rename_i ho; rw [ho]; cases e; rfl
  · rename_i o ho
    rw [ho]
    simp only []
    cases hw : Region.wanted o (yieldedA ops f) with
    | false => rw [hw] at e; cases e; rfl
    | true =>
      rw [hw] at e
      simp only [cond_true] at e ⊢
      split at e
      · rename_i v h1 qs he; cases e; rw [evH_eq hF he hp]
      · cases e
theorem drawOpsH_eq (hF : AgF F FH) {ops : Array Oper} : ∀ (k i : Nat) (f : Fr) (h : AH) (r : Fr × AH × List (Nat × Nat)) (ps : List Prop), drawOpsH P gl H cur FH ops k i f h = some (r, ps) → All ps → drawOps (evR P gl F) ops k i f h = some r
  | 0, i, f, h, r, ps, e, hp => by cases e; rfl
  | k + 1, i, f, h, r, ps, e, hp => by
    simp only [drawOpsH] at e
    simp only [drawOps]
    split at e
    · rename_i f1 h1 qs h1e
      split at e
      · rename_i f2 h2 l q2 h2e
        cases e
        rw [stepOpH_eq hF h1e hp.left]
        simp only []
        rw [drawOpsH_eq hF k (i + 1) f1 _ _ _ h2e hp.right]
      · cases e
    · cases e
theorem loopH_eq (hC : AgC C CH) (c : Code) : ∀ (n : Nat) (f : Fr) (h : AH) (r : AExit × Fr × AH) (ps : List Prop), loopH CH c n f h = some (r, ps) → All ps → loopA C c n f h = some r
  | 0, f, h, r, ps, e, hp => by cases e
  | n + 1, f, h, r, ps, e, hp => by
    simp only [loopH] at e
    simp only [loopA]
    split at e
    · rename_i f1 h1 qs h1e
      split at e
      · rename_i r2 q2 h2e
        cases e
        rw [hC _ _ _ _ _ h1e hp.left]
        exact loopH_eq hC c n f1 h1 _ _ h2e hp.right
      · cases e
    · rename_i hne
      have := hC _ _ _ _ _ e hp
      rw [this]
      obtain ⟨x, y, z⟩ := r
      cases x with
      | normal => exact absurd e (hne y z ps)
      | _ => rfl
theorem scopeH_eq (hC : AgC C CH) (body : Code) : ∀ (n : Nat) (c : Code) (f : Fr) (h : AH) (r : AExit × Fr × AH) (ps : List Prop), scopeH CH body n c f h = some (r, ps) → All ps → scopeA C body n c f h = some r
  | 0, c, f, h, r, ps, e, hp => by cases e
  | n + 1, c, f, h, r, ps, e, hp => by
    simp only [scopeH] at e
    simp only [scopeA]
    split at e
    · rename_i l f1 h1 qs h1e
      split at e
      · rename_i rest hl
        split at e
        · rename_i r2 q2 h2e
          cases e
          rw [hC _ _ _ _ _ h1e hp.left]
          simp only []
          rw [hl]
          exact scopeH_eq hC body n rest f1 h1 _ _ h2e hp.right
        · cases e
      · rename_i hl
        cases e
        rw [hC _ _ _ _ _ h1e hp]
        simp only []
        rw [hl]
    · rename_i hne
      have := hC _ _ _ _ _ e hp
      rw [this]
      obtain ⟨x, y, z⟩ := r
      cases x with
      | goto l => exact absurd e (hne l y z ps)
      | _ => rfl
theorem stepCH_eq (hF : AgF F FH) (hC : AgC C CH) : AgC (ovC H cur (stepC P gl (evR P gl F) F C)) (stepCH P gl H cur FH CH) := by
  intro c f h r ps e hp
  cases c with
  | block id c =>
    simp only [stepCH] at e
    simp only [ovC]
    split at e
    · rename_i r' hr
      cases e
      rw [hr]
      simp only []
      rw [if_pos hp]
    · rename_i hr
      rw [hr]
      simp only [stepC]
      split at e
      · rename_i id' f1 h1 qs h1e
        cases e
        rw [hC _ _ _ _ _ h1e hp]
      · rename_i hne
        have := hC _ _ _ _ _ e hp
        rw [this]
        obtain ⟨x, y, z⟩ := r
        cases x with
        | exit l => exact absurd e (hne l y z ps)
        | _ => rfl
  | seq a b =>
    simp only [stepCH] at e
    simp only [ovC, stepC]
    split at e
    · rename_i f1 h1 qs h1e
      split at e
      · rename_i r2 q2 h2e
        cases e
        rw [hC _ _ _ _ _ h1e hp.left]
        exact hC _ _ _ _ _ h2e hp.right
      · cases e
    · rename_i hne
      have := hC _ _ _ _ _ e hp
      rw [this]
      obtain ⟨x, y, z⟩ := r
      cases x with
      | normal => exact absurd e (hne y z ps)
      | _ => rfl
  | cond c x y =>
    simp only [stepCH] at e
    simp only [ovC, stepC]
    cases hok : operandOk gl c with
    | false => rw [hok] at e; cases e
    | true =>
      rw [hok] at e
      simp only [cond_true] at e ⊢
      split at e
      · rename_i hv; rw [hv]; exact hC _ _ _ _ _ e hp
      · rename_i hv; rw [hv]; exact hC _ _ _ _ _ e hp
      · cases e
  | loop c => exact loopH_eq hC c _ _ _ _ _ e hp
  | scope b => exact scopeH_eq hC b _ _ _ _ _ _ e hp
  | region id ops draw =>
    simp only [stepCH] at e
    simp only [ovC, stepC]
    cases draw with
    | false => exact runH_eq hF _ _ _ _ _ e hp
    | true =>
      simp only [cond_true] at e ⊢
      unfold regionH at e
      unfold region
      simp only [cond_true]
      split at e
      · rename_i pl hpl
        rw [hpl]
        simp only []
        split at e
        · rename_i f' h' l qs hd
          cases hc : (drawOk pl l && Region.noSelect ops) with
          | false => rw [hc] at e; cases e
          | true =>
            rw [hc] at e
            cases e
            rw [drawOpsH_eq hF _ _ _ _ _ _ hd hp]
            simp only []
            rw [Bool.and_eq_true] at hc
            rw [hc.1, hc.2]
            rfl
        · cases e
      · cases e
  | rangeFunc => cases e
  | refuse => cases e
  | _ => cases e; rfl
theorem stepFH_eq {Cs : FuncId → RecC} {CHs : FuncId → RecCH} {D : RecD} (hC : ∀ g, AgC (Cs g) (CHs g)) : AgF (ovF H fun g args h => stepF P (Cs g) D g args h) (stepFH P H CHs D) := by
  intro g args h r ps e hp
  unfold stepFH at e
  unfold ovF
  split at e
  · rename_i r' hr
    cases e
    rw [hr]
    simp only []
    rw [if_pos hp]
  · rename_i hr
    rw [hr]
    simp only []
    unfold stepF
    split at e
    · cases e
    · rename_i fn hfn
      rw [hfn]
      simp only []
      split at e
      · cases e
      · rename_i c hc
        rw [hc]
        simp only []
        cases hs : small (args.length + (fn.ntmps - args.length)) with
        | false => rw [hs] at e; cases e
        | true =>
          rw [hs] at e
          simp only [cond_true] at e ⊢
          split at e
          all_goals first
            | (rename_i hce
               split at e
               · rename_i hl
                 cases e
                 rw [hC g _ _ _ _ _ hce hp]
                 exact hl
               · cases e)
            | cases e
theorem runHR_eq : ∀ n, (∀ cur, AgC ((realR P gl H n).1 cur) ((runHR P gl H n).1 cur)) ∧ AgF (realR P gl H n).2 (runHR P gl H n).2
  | 0 => ⟨fun _ _ _ _ _ _ e => (by cases e), fun _ _ _ _ _ e => (by cases e)⟩
  | n + 1 => by
    obtain ⟨h1, h2⟩ := runHR_eq n
    exact ⟨fun cur => stepCH_eq h2 (h1 cur), stepFH_eq h1⟩
/-- What is gathered holds: the call comes to what was reckoned. -/
theorem runHR_call (hz : zerosFlat P = true) (hm : P.follows .mixedOrders = true) (hH : H.Ok P gl) {n : Nat} {g : FuncId} {args : List Value} {h : AH} {en : AEnd} {h1 : AH} {ps : List Prop} (e : (runHR P gl H n).2 g args h = some ((en, h1), ps)) (hp : All ps) :
    CTup P gl g args h en h1 := (realR_sound (zerosFlat_spec hz) hm hH n).2.tup ((runHR_eq n).2 _ _ _ _ _ e hp)
theorem runHR_code (hz : zerosFlat P = true) (hm : P.follows .mixedOrders = true) (hH : H.Ok P gl) {n : Nat} {cur : FuncId} {c : Code} {f : Fr} {h : AH} {ex : AExit} {f1 : Fr} {h1 : AH} {ps : List Prop} (e : (runHR P gl H n).1 cur c f h = some ((ex, f1, h1), ps)) (hp : All ps) :
    LTup P gl c f h ex f1 h1 := ((realR_sound (zerosFlat_spec hz) hm hH n).1 cur).tup ((runHR_eq n).1 cur _ _ _ _ _ e hp)
end
end Go.Ev
namespace Go.Ev
open Go Go.RowKit

section
variable {P : Program} {gl : Nat}
/-- Two readings of a number's block agree. -/
def AgK (n : Nat) (ρ : Nat → Nat) (κ0 κ1 : K) : Prop := ∀ i, i < n → κ0 i = κ1 (ρ i)
theorem CTup.pure {g : FuncId} {args0 : List Value} {h0 : AH} {v : Value} {h0' : AH} (t : CTup P gl g args0 h0 (.ret v) h0') (wf0 : WF h0) (hv : flatV v = true)
    (hw : ∀ i, i < h0.n → h0'.wr.testBit i = false) (ρ : Nat → Nat) {args1 : List Value} {h1 h1' : AH} (hm : Marked h1 h1')
    (hargs : ∀ κ0 κ1, AgK h0.n ρ κ0 κ1 → ∀ l, VL κ1 args1 l → VL κ0 args0 l)
    (hobj : ∀ i, i < h0.n → h0'.touched i = true → h1'.touched (ρ i) = true ∧ ρ i < h1.n ∧ ∃ o0 o1, h0.get i = some o0 ∧ h1.get (ρ i) = some o1 ∧ (o1.view = true → o0.view = true) ∧ ∀ κ0 κ1, AgK h0.n ρ κ0 κ1 → ∀ b w, ObjIn P κ1 b w o1 → ObjIn P κ0 b w o0)
    (hinj : ∀ i i', i < h0.n → i' < h0.n → h0'.touched i = true → h0'.touched i' = true → ρ i = ρ i' → i = i')
    (hgl : gl ≤ h0.n) (hglρ : ∀ g, g < gl → ρ g = g) : CTup P gl g args1 h1 (.ret v) h1' := by
  intro wf1
  refine ⟨⟨hm.ext, hm.wf wf1⟩, fun κ G args' w hg hrel hvl hag hfs => ?_⟩
  obtain ⟨⟨x0, wf0'⟩, s0⟩ := t wf0
  let κ0 : K := fun i => if i < h0.n then κ (ρ i) else none
  have hk0 : ∀ i, i < h0.n → κ0 i = κ (ρ i) := fun i hi => if_pos hi
  let G0 : Nat → Option AObj := fun i => if i < h0.n ∧ h0'.touched i = true then h0.get i else none
  have hgG : ∀ i o, G0 i = some o → i < h0.n ∧ h0'.touched i = true ∧ h0.get i = some o := by
    intro i o hi
    simp only [G0] at hi
    split at hi
    · rename_i hc; exact ⟨hc.1, hc.2, hi⟩
    · cases hi
  have hrel0 : Rel P κ0 G0 w := by
    refine ⟨fun i o hi => ?_, fun i i' o o' b b' hi hi' hb hb' hblk hvw => ?_, fun i b hb => ?_⟩
    · obtain ⟨h1i, h2i, h3i⟩ := hgG i o hi
      obtain ⟨ht, hlt, o0, o1, q0, q1, _, q2⟩ := hobj i h1i h2i
      rw [q0] at h3i
      cases h3i
      have hGi : G (ρ i) = some o1 := by rw [hag (ρ i) hlt ht]; exact q1
      obtain ⟨b, hb, hin⟩ := hrel.at_ _ _ hGi
      exact ⟨b, by rw [hk0 i h1i]; exact hb, q2 κ0 κ hk0 b w hin⟩
    · obtain ⟨a1, a2, a3⟩ := hgG i o hi
      obtain ⟨c1, c2, c3⟩ := hgG i' o' hi'
      obtain ⟨ht, hlt, _, o1, q0, q1, qv, _⟩ := hobj i a1 a2
      obtain ⟨ht', hlt', _, o1', q0', q1', qv', _⟩ := hobj i' c1 c2
      rw [q0] at a3
      rw [q0'] at c3
      cases a3
      cases c3
      rw [hk0 i a1] at hb
      rw [hk0 i' c1] at hb'
      exact hinj i i' a1 c1 a2 c2 (hrel.one _ _ _ _ _ _ (by rw [hag _ hlt ht]; exact q1) (by rw [hag _ hlt' ht']; exact q1') hb hb' hblk (view_and hvw qv qv'))
    · simp only [κ0] at hb
      split at hb
      · exact hrel.old _ b hb
      · cases hb
  have hg0 : KG gl κ0 := fun g hgg => by
    obtain ⟨b, h1, h2⟩ := hg g hgg
    exact ⟨b, by rw [hk0 g (by omega), hglρ g hgg]; exact h1, h2⟩
  have hag0 : Agree h0 h0' G0 := fun i hi ht => if_pos ⟨hi, ht⟩
  have hfs0 : Fresh h0 h0' κ0 G0 := fun i hi _ => ⟨if_neg (fun c => by omega), if_neg (by omega)⟩
  refine (s0 κ0 G0 args' w hg0 hrel0 (hargs κ0 κ hk0 _ hvl) hag0 hfs0).mono fun e w' hen => ?_
  obtain ⟨κ', hend, _, hkx⟩ := hen
  have hold : ∀ k, k < w.heap.size → w'.heap[k]? = w.heap[k]? := fun k hk => hkx.keep k hk fun id b hb _ => by
    simp only [κ0] at hb
    split at hb
    · rename_i hi; exact hw id hi
    · cases hb
  cases hend with
  | ret hr =>
  rename_i v'
  have hmg : merge h1 h1' G = G := merge_read wf1 ⟨hm.1, hm.2.1, hm.2.2.1⟩ hag
  refine ⟨κ, ?_, ?_, K.le_refl _, fun _ _ => rfl, fun _ _ e => .inl e, fun k hk _ => hold k hk, hkx.same⟩
  · rw [VR.eq_of_flat hr hv]; exact .ret (VR.flat v hv)
  · rw [hmg]
    exact ⟨fun i o hi => let ⟨b, hb, hin⟩ := hrel.at_ i o hi; ⟨b, hb, hin.heap (hold _ (hrel.old i b hb))⟩, hrel.one, fun i b hb => Nat.lt_of_lt_of_le (hrel.old i b hb) hkx.same.size⟩
/-- A heap of which nothing is known but the numbers of the variables. -/
abbrev bare (gl : Nat) : AH := ⟨.nil, gl, 0, 0⟩
theorem wf_bare (n : Nat) : WF (bare n) := ⟨fun id o h => (by cases h), fun id h => (by simp at h)⟩
theorem low_of {x m : Nat} (h : Nat.beq (Nat.land x (2 ^ m - 1)) 0 = true) (i : Nat) (hi : i < m) : x.testBit i = false := by
  rw [beq_eq, decide_eq_true_eq] at h
  exact low_bits h hi
/-- A call of plain values: told at the bare heap. -/
theorem CTup.plain {g : FuncId} {args : List Value} {v : Value} {h0' : AH} (t : CTup P gl g args (bare gl) (.ret v) h0') (hf : flatL args = true) (hv : flatV v = true)
    (hw : Nat.beq (Nat.land h0'.wr (2 ^ gl - 1)) 0 = true) (hr : Nat.beq (Nat.land h0'.rd (2 ^ gl - 1)) 0 = true) (h : AH) : CTup P gl g args h (.ret v) h := by
  refine CTup.pure t (wf_bare gl) hv (low_of hw) (fun i => i) (Marked.refl h) (fun κ0 κ1 _ l hl => ?_) (fun i hi ht => ?_) (fun i i' hi _ ht _ _ => ?_) (Nat.le_refl _) (fun _ _ => rfl)
  · have := VL.eq_of_flat hl hf
    subst this
    exact VL.flat _ hf
  · simp [AH.touched, low_of hw i hi, low_of hr i hi] at ht
  · simp [AH.touched, low_of hw i hi, low_of hr i hi] at ht
/-- A law of plain values. -/
theorem CTup.law {g : FuncId} {args : List Value} {v : Value} {h' : AH} (t : CTup P gl g args (bare gl) (.ret v) h') (hf : flatL args = true) (hv : flatV v = true) (hw : Nat.beq (Nat.land h'.wr (2 ^ gl - 1)) 0 = true) {w : World} (hsz : gl ≤ w.heap.size) :
    Calls P g ⟨args⟩ w fun e w' => e = .returned v ∧ Below w.heap.size w w' := by
  have hold := kg_old hsz
  refine ((t (wf_bare gl)).2 (kg gl) (fun _ => none) ⟨args⟩ w (kg_KG gl) ⟨fun id o h => (by cases h), fun id id' o o' b b' h => (by cases h), fun id b h => (hold id b h).1⟩ (VL.flat args hf) (fun id _ _ => rfl) (fun id hid _ => ⟨rfl, ?_⟩)).mono fun en w' hen => ?_
  · cases hk : kg gl id with
    | none => rfl
    | some b => have := (hold id b hk).2; exact absurd hid (by show ¬ gl ≤ id; omega)
  · obtain ⟨κ', hend, _, hkx⟩ := hen
    cases hend with
    | ret hr =>
    exact ⟨by rw [VR.eq_of_flat hr hv], hkx.same.os, hkx.same.tape, hkx.same.output, hkx.same.size, fun k hk => hkx.keep k hk fun id b hb _ => low_of hw id (hold id b hb).2⟩
/-! ### calls of plain values, told by functions -/

abbrev Sums := List (FuncId × (List Value → Option Value))
def Sums.at (g : FuncId) : Sums → Option (List Value → Option Value)
  | [] => none
  | (k, fn) :: l => cond (Nat.beq g k) (some fn) (Sums.at g l)
def Sums.Ok (P : Program) (gl : Nat) (l : Sums) : Prop := ∀ x ∈ l, ∀ args v, x.2 args = some v → ∀ h, CTup P gl x.1 args h (.ret v) h
abbrev OpHints := List (FuncId × Nat × OpHint)
def OpHints.at (g s : Nat) : OpHints → Option OpHint
  | [] => none
  | (k, j, x) :: l => cond (Nat.beq g k && Nat.beq s j) (some x) (OpHints.at g s l)
def plainHints (ops : OpHints) (sums : Sums) : Hints where
  op g s := OpHints.at g s ops
  call g args h := match Sums.at g sums with
    | some fn => match fn args with
      | some v => some ((.ret v, h), [])
      | none => none
    | none => none
  block _ _ _ _ _ := none
theorem Sums.at_mem {g : FuncId} {fn : List Value → Option Value} : ∀ {l : Sums}, Sums.at g l = some fn → (g, fn) ∈ l
  | [], h => by cases h
  | (k, f) :: l, h => by
    unfold Sums.at at h
    cases hk : Nat.beq g k with
    | true => rw [hk] at h; cases h; rw [beq_eq, decide_eq_true_eq] at hk; subst hk; exact List.mem_cons_self ..
    | false => rw [hk] at h; exact List.mem_cons_of_mem _ (Sums.at_mem h)
theorem plainHints_ok {ops : OpHints} {sums : Sums} (hs : Sums.Ok P gl sums) : (plainHints ops sums).Ok P gl := by
  refine ⟨fun g args h en h1 pre e _ => ?_, fun g id c f h ex f1 h1 pre e _ => (by cases e)⟩
  simp only [plainHints] at e
  split at e
  · rename_i fn hfn
    split at e
    · rename_i v hv; cases e; exact hs _ (Sums.at_mem hfn) args v hv h
    · cases e
  · cases e
theorem Sums.Ok.nil : Sums.Ok P gl [] := fun _ h => (by cases h)
theorem Sums.Ok.cons {g : FuncId} {fn : List Value → Option Value} {l : Sums} (h : ∀ args v, fn args = some v → ∀ h, CTup P gl g args h (.ret v) h) (hl : Sums.Ok P gl l) : Sums.Ok P gl ((g, fn) :: l) := by
  intro x hx
  rcases List.mem_cons.1 hx with rfl | hx
  · exact h
  · exact hl x hx
/-- What a call of plain values comes to, if it turns nothing that was there. -/
def plainOut (m : Nat) : PO (AEnd × AH) → Option (Value × List Prop)
  | some ((.ret v, h1), ps) => cond (flatV v && Nat.beq (Nat.land h1.wr (2 ^ m - 1)) 0 && Nat.beq (Nat.land h1.rd (2 ^ m - 1)) 0) (some (v, ps)) none
  | _ => none
theorem plain_tup (hz : zerosFlat P = true) (hm : P.follows .mixedOrders = true) {H : Hints} (hH : H.Ok P gl) {n : Nat} {g : FuncId} {args : List Value} {v : Value} {ps : List Prop} (e : plainOut gl ((runHR P gl H n).2 g args (bare gl)) = some (v, ps)) (hp : All ps) (hf : flatL args = true) (h : AH) :
    CTup P gl g args h (.ret v) h := by
  unfold plainOut at e
  split at e
  · rename_i v0 h1 qs he
    cases hc : (flatV v0 && Nat.beq (Nat.land h1.wr (2 ^ gl - 1)) 0 && Nat.beq (Nat.land h1.rd (2 ^ gl - 1)) 0) with
    | false => rw [hc] at e; cases e
    | true =>
      rw [hc] at e
      cases e
      simp only [Bool.and_eq_true] at hc
      exact (runHR_call hz hm hH he hp).plain hf hc.1.1 hc.1.2 hc.2 h
  · cases e
/-- A call of plain values that the evaluator alone reckons. -/
def evalOut (m : Nat) : Option (AEnd × AH) → Option Value
  | some (.ret v, h1) => cond (flatV v && Nat.beq (Nat.land h1.wr (2 ^ m - 1)) 0 && Nat.beq (Nat.land h1.rd (2 ^ m - 1)) 0) (some v) none
  | _ => none
theorem eval_tup (hz : zerosFlat P = true) (hm : P.follows .mixedOrders = true) {n : Nat} {g : FuncId} {args : List Value} {v : Value} (e : evalOut gl ((run P gl (checked gl (special P)) n).2.1 g args (bare gl)) = some v) (hf : flatL args = true) (h : AH) :
    CTup P gl g args h (.ret v) h := by
  unfold evalOut at e
  split at e
  · rename_i v0 h1 he
    cases hc : (flatV v0 && Nat.beq (Nat.land h1.wr (2 ^ gl - 1)) 0 && Nat.beq (Nat.land h1.rd (2 ^ gl - 1)) 0) with
    | false => rw [hc] at e; cases e
    | true =>
      rw [hc] at e
      cases e
      simp only [Bool.and_eq_true] at hc
      exact ((run_sound (zerosFlat_spec hz) hm special_sound n).2.1.tup he).plain hf hc.1.1 hc.1.2 hc.2 h
  · cases e
theorem plain_law {g : FuncId} {args : List Value} {v : Value} (t : ∀ h, CTup P gl g args h (.ret v) h) (hf : flatL args = true) (hv : flatV v = true) {w : World} (hsz : gl ≤ w.heap.size) :
    Calls P g ⟨args⟩ w fun e w' => e = .returned v ∧ Below w.heap.size w w' := (t (bare gl)).law hf hv (by show Nat.beq ((0 : Nat) &&& (2 ^ gl - 1)) 0 = true; rw [Nat.zero_and]; rfl) hsz
end
end Go.Ev
namespace Go.Ev
open Go Go.RowKit

section
variable {P : Program} {gl : Nat}
theorem arunM_bind {α β : Type} (s : Sem α) (f : α → Sem β) (h : AH) : arun P (s >>= f) h = (arun P s h).bind fun x => arun P (f x.1) x.2 := arun_bind P s f h
theorem arunM_pure {α : Type} (a : α) (h : AH) : arun P (pure a : Sem α) h = some (a, h) := rfl
theorem arun_underlying {t : TypeId} {d : TypeDesc} (ht : P.underlying t = some d) (h : AH) : arun P (underlying t) h = some (d, h) := by
  unfold underlying
  rw [arunM_bind]
  simp only [program, arun, Option.bind_some, ht]
  rfl
theorem arun_sizeOf {t : TypeId} {i : TypeInfo} (ht : P.info? t = some i) (h : AH) : arun P (sizeOf t) h = some (i.size, h) := by
  unfold sizeOf typeInfo
  rw [arunM_bind, arunM_bind]
  simp only [program, arun, Option.bind_some, ht]
  rfl
theorem addr_add {a : Addr} (h : a.spot = none) (n : Nat) : a.add n = ⟨a.block, a.off + n, none⟩ := by
  unfold Addr.add
  split
  · rename_i hn; subst hn; cases a; simp_all
  · rfl
def flatAll (f : Fr) (o : Oper) : Bool := o.op.operands.toList.all fun x => flatV (f.eval x)
theorem flatRoute_none {f : Fr} {o : Oper} (h : flatAll f o = false) : flatRoute P f.eval o = none := by
  unfold flatRoute
  unfold flatAll at h
  rw [h]; rfl
def rowOp : Op → Bool
  | .load .. | .store .. | .indexAddr .. | .slice .. => true
  | _ => false
theorem evR_plain {f : Fr} {o : Oper} {h h0 h1 : AH} {v : Value} (hop : rowOp o.op = true) (hok : o.op.operands.toList.all (operandOk gl) = true) (hnf : flatAll f o = false) (hg : guardA P f.eval h o.op = some h0)
    (hr : arun P (execOp f.eval o) h0 = some (.value v, h1)) : evR P gl noF f o h = some (v, h1) := by
  have hs : sp0 P gl f o h = none := by
    unfold sp0 checked special
    rw [hok]
    cases ho : o.op <;> rw [ho] at hop <;> simp_all [rowOp]
  unfold evR orEv
  rw [hs]
  simp only []
  unfold aop
  rw [hok]
  simp only [cond_true]
  have hp : plainA P f o h = some (v, h1) := by
    unfold plainA
    rw [flatRoute_none hnf, hg]
    simp only []
    rw [hr]
  cases ho : o.op <;> rw [ho] at hop <;> simp_all [rowOp]
theorem evR_skip {f : Fr} {o : Oper} {h h0 h1 : AH} (hop : rowOp o.op = true) (hok : o.op.operands.toList.all (operandOk gl) = true) (hnf : flatAll f o = false) (hg : guardA P f.eval h o.op = some h0)
    (hr : arun P (execOp f.eval o) h0 = some (.skip, h1)) : evR P gl noF f o h = some (undef, h1) := by
  have hs : sp0 P gl f o h = none := by
    unfold sp0 checked special
    rw [hok]
    cases ho : o.op <;> rw [ho] at hop <;> simp_all [rowOp]
  unfold evR orEv
  rw [hs]
  simp only []
  unfold aop
  rw [hok]
  simp only [cond_true]
  have hp : plainA P f o h = some (undef, h1) := by
    unfold plainA
    rw [flatRoute_none hnf, hg]
    simp only []
    rw [hr]
  cases ho : o.op <;> rw [ho] at hop <;> simp_all [rowOp]

/-! ### a place in a row -/

def ixRun (P : Program) (gl : Nat) (f : Fr) (o : Oper) (h : AH) : Option ((Value × AH) × List Prop) :=
  cond (o.op.operands.toList.all (operandOk gl) && !flatAll f o)
    (match o.op with
      | .indexAddr t x ix => match P.underlying t, f.eval x, f.eval ix with
        | some (.slice elem), .slice (some a) n _, .int _ i => match P.info? elem, a.spot with
          | some inf, none => some ((.pointer (some ⟨a.block, a.off + i.toNat * inf.size, none⟩), h), [0 ≤ i ∧ i < (n : Int)])
          | _, _ => none
        | _, _, _ => none
      | _ => none) none
theorem ix_ok : ∀ P gl f o h r ps, isCall P f o = none → ixRun P gl f o h = some (r, ps) → All ps → evR P gl noF f o h = some r := by
  intro P gl f o h r ps _ e hp
  unfold ixRun at e
  cases hc : (o.op.operands.toList.all (operandOk gl) && !flatAll f o) with
  | false => rw [hc] at e; cases e
  | true =>
    rw [hc] at e
    simp only [Bool.and_eq_true, Bool.not_eq_true', cond_true] at hc e
    split at e
    · rename_i t x ix ho
      split at e
      · rename_i elem a n c k i ht hx hi
        split at e
        · rename_i inf hinf hsp
          cases e
          have hb := hp _ (List.mem_singleton.2 rfl)
          refine evR_plain (by rw [ho]; rfl) hc.1 hc.2 (h0 := h) (by rw [ho]; rfl) ?_
          unfold execOp
          rw [ho]
          simp only []
          rw [arunM_bind]
          unfold Instr.indexAt
          rw [hx, hi]
          simp only [asIntOf, arunM_bind, arunM_pure, arun_underlying ht, arun_sizeOf hinf, Option.bind_some, if_pos hb, addr_add hsp]
        · cases e
      · cases e
    · cases e
def ixRule : OpRule := ⟨ixRun, ix_ok⟩

/-! ### what stands at a place -/

def scalarT (P : Program) (t : TypeId) : Bool := match P.underlying t with
  | some (.struct _) | some (.array _ _) | none => false
  | _ => true
theorem arun_loadVar {t : TypeId} (ht : scalarT P t = true) (a : Addr) (h : AH) : arun P (loadVar t a) h = arun P (load a) h := by
  unfold scalarT at ht
  unfold loadVar isAgg
  cases hd : P.underlying t with
  | none => rw [hd] at ht; cases ht
  | some d =>
    rw [hd] at ht
    cases d <;> first | (cases ht; done) | (simp only [arunM_bind, arunM_pure, arun_underlying hd, Option.bind_some]; rfl)
def ldRun (v : Nat → Value) (P : Program) (gl : Nat) (f : Fr) (o : Oper) (h : AH) : Option ((Value × AH) × List Prop) :=
  cond (o.op.operands.toList.all (operandOk gl) && !flatAll f o)
    (match o.op with
      | .load t x => match f.eval x with
        | .pointer (some a) => match a.spot, h.get a.block with
          | none, some (.cells c _ _ _ _ _) => cond (scalarT P t && oneCell (v a.off)) (some ((v a.off, h.rdBit a.block), [nth c a.off = some (v a.off)])) none
          | _, _ => none
        | _ => none
      | _ => none) none
theorem ld_ok (v : Nat → Value) : ∀ P gl f o h r ps, isCall P f o = none → ldRun v P gl f o h = some (r, ps) → All ps → evR P gl noF f o h = some r := by
  intro P gl f o h r ps _ e hp
  unfold ldRun at e
  cases hc : (o.op.operands.toList.all (operandOk gl) && !flatAll f o) with
  | false => rw [hc] at e; cases e
  | true =>
    rw [hc] at e
    simp only [Bool.and_eq_true, Bool.not_eq_true', cond_true] at hc e
    split at e
    · rename_i t x ho
      split at e
      · rename_i a hx
        split at e
        · rename_i c _ _ _ _ _ hsp hg
          cases hs : (scalarT P t && oneCell (v a.off)) with
          | false => rw [hs] at e; cases e
          | true =>
            rw [hs] at e
            cases e
            simp only [Bool.and_eq_true] at hs
            have hb := hp _ (List.mem_singleton.2 rfl)
            refine evR_plain (by rw [ho]; rfl) hc.1 hc.2 (h0 := h) (by rw [ho]; rfl) ?_
            unfold execOp
            rw [ho]
            simp only []
            unfold Instr.loadAt
            rw [hx]
            simp only [Instr.sureAddr, arunM_bind, arunM_pure, Option.bind_some, arun_loadVar hs.1]
            simp only [load, arun, hsp, hg, hb, hs.2, cond_true, Option.bind_some]
        · cases e
      · cases e
    · cases e
def ldRule (v : Nat → Value) : OpRule := ⟨ldRun v, ld_ok v⟩

/-! ### a store at a place -/

def stRun (P : Program) (gl : Nat) (f : Fr) (o : Oper) (h : AH) : Option ((Value × AH) × List Prop) :=
  cond (o.op.operands.toList.all (operandOk gl) && !flatAll f o)
    (match o.op with
      | .store t x y => match f.eval x, P.info? t with
        | .pointer (some a), some i => match a.spot, h.get a.block with
          | none, some (.cells c e lo hi ex st) => cond (Nat.beq i.size 1 && Nat.beq (f.eval y).cells.size 1 && oneCell (f.eval y) && small a.block)
              (some ((undef, h.put a.block (.cells (upd c a.off (f.eval y)) e lo hi ex st)), [a.off < c.length, lo ≤ hi ∧ ¬ (lo ≤ a.off ∧ a.off < hi)])) none
          | _, _ => none
        | _, _ => none
      | _ => none) none
theorem cells_one {v : Value} (h : oneCell v = true) : v.cells = #[v] := by
  cases v <;> first | rfl | (simp [oneCell] at h)
theorem st_ok : ∀ P gl f o h r ps, isCall P f o = none → stRun P gl f o h = some (r, ps) → All ps → evR P gl noF f o h = some r := by
  intro P gl f o h r ps _ e hp
  unfold stRun at e
  cases hc : (o.op.operands.toList.all (operandOk gl) && !flatAll f o) with
  | false => rw [hc] at e; cases e
  | true =>
    rw [hc] at e
    simp only [Bool.and_eq_true, Bool.not_eq_true', cond_true] at hc e
    split at e
    · rename_i t x y ho
      split at e
      · rename_i a i hx hi
        split at e
        · rename_i c el lo hi' ex st hsp hg
          cases hs : (Nat.beq i.size 1 && Nat.beq (f.eval y).cells.size 1 && oneCell (f.eval y) && small a.block) with
          | false => rw [hs] at e; cases e
          | true =>
            rw [hs] at e
            cases e
            simp only [Bool.and_eq_true, beq_eq, decide_eq_true_eq] at hs
            obtain ⟨⟨⟨s1, s2⟩, s3⟩, s4⟩ := hs
            have hb1 := hp _ (List.mem_cons_self ..)
            have hb2 := hp _ (List.mem_cons_of_mem _ (List.mem_singleton.2 rfl))
            refine evR_skip (by rw [ho]; rfl) hc.1 hc.2 (h0 := h) (by rw [ho]; rfl) ?_
            unfold execOp
            rw [ho]
            simp only []
            unfold Instr.storeAt storeVar
            rw [hx]
            simp only [Instr.sureAddr, arunM_bind, arunM_pure, Option.bind_some, arun_sizeOf hi, s1, s2]
            have hblt : Nat.blt a.off c.length = true := by rw [Nat.blt_eq]; exact hb1
            have hble : (Nat.blt hi' lo || (Nat.ble lo a.off && Nat.blt a.off hi')) = false := by
              rw [Bool.eq_false_iff]
              intro hq
              simp only [Bool.or_eq_true, Bool.and_eq_true, Nat.ble_eq, Nat.blt_eq] at hq
              rcases hq with hq | hq
              · have := hb2.1; omega
              · exact hb2.2 hq
            rw [cells_one s3]
            simp only [ne_eq, not_true_eq_false, if_false]
            have ha : a.add 0 = a := by rw [addr_add hsp]; cases a; simp_all
            simp only [storeCells, arunM_bind, ha, store, arun, hsp, hg, s3, s4, hblt, hble, Bool.not_false, Bool.and_self, cond_true, Option.bind_some, arunM_pure]
        · cases e
      · cases e
    · cases e
def stRule : OpRule := ⟨stRun, st_ok⟩

/-! ### a part of a row -/

def boundAt : Option Value → Option (Option Int)
  | none => some none
  | some (.int _ i) => some (some i)
  | _ => none
/-- 'x[lo:hi:mx]' of a slice. -/
def slRun (P : Program) (gl : Nat) (f : Fr) (o : Oper) (h : AH) : Option ((Value × AH) × List Prop) :=
  cond (o.op.operands.toList.all (operandOk gl) && !flatAll f o)
    (match o.op with
      | .slice t x lo hi mx => match P.underlying t, f.eval x, boundAt (lo.map f.eval), boundAt (hi.map f.eval), boundAt (mx.map f.eval) with
        | some (.slice elem), .slice (some a) n c, some l, some r, some m => match P.info? elem, a.spot, h.get a.block with
          | some inf, none, some (.cells _ e _ _ ex _) => cond ((Nat.beq (P.cellsOf e) (P.cellsOf elem) || ex) && (r.isSome || m.isNone))
              (some ((.slice (some ⟨a.block, a.off + (bif decide ((m.elim c Int.toNat) = (l.elim 0 Int.toNat)) then 0 else (l.elim 0 Int.toNat) * inf.size), none⟩) ((r.elim n Int.toNat) - (l.elim 0 Int.toNat)) ((m.elim c Int.toNat) - (l.elim 0 Int.toNat)), h.rdBit a.block),
                [n ≤ c, m.elim True (fun m => 0 ≤ m ∧ m ≤ (c : Int)), r.elim True (fun r => 0 ≤ r ∧ r ≤ ((m.elim c Int.toNat : Nat) : Int)), l.elim True (fun l => 0 ≤ l ∧ l ≤ ((r.elim n Int.toNat : Nat) : Int))])) none
          | _, _, _ => none
        | _, _, _, _, _ => none
      | _ => none) none
theorem arun_bound {x : Value} {k : IntKind} {i : Int} (hx : x = .int k i) {y : Nat} (hb : 0 ≤ i ∧ i ≤ (y : Int)) (code : BoundsCode) (h : AH) : arun P (Instr.sliceBound x y code) h = some (i.toNat, h) := by
  unfold Instr.sliceBound
  rw [hx]
  simp only [asIntOf, arunM_bind, arunM_pure, Option.bind_some, if_pos hb]
theorem boundAt_some {v : Option Value} {i : Int} (h : boundAt v = some (some i)) : ∃ k, v = some (.int k i) := by
  unfold boundAt at h
  split at h
  · cases h
  · cases h; exact ⟨_, rfl⟩
  · cases h
theorem boundAt_none {v : Option Value} (h : boundAt v = some none) : v = none := by
  unfold boundAt at h
  split at h
  · rfl
  · cases h
  · cases h
theorem sl_ok : ∀ P gl f o h r ps, isCall P f o = none → slRun P gl f o h = some (r, ps) → All ps → evR P gl noF f o h = some r := by
  intro P gl f o h r ps _ e hp
  unfold slRun at e
  cases hc : (o.op.operands.toList.all (operandOk gl) && !flatAll f o) with
  | false => rw [hc] at e; cases e
  | true =>
    rw [hc] at e
    simp only [Bool.and_eq_true, Bool.not_eq_true', cond_true] at hc e
    split at e
    · rename_i t x lo hi mx ho
      split at e
      · rename_i elem a n c l rr m ht hx hl hr hm
        split at e
        · rename_i inf _ el _ _ ex _ hinf hsp hg
          cases hs : ((Nat.beq (P.cellsOf el) (P.cellsOf elem) || ex) && (rr.isSome || m.isNone)) with
          | false => rw [hs] at e; cases e
          | true =>
            rw [hs] at e
            cases e
            simp only [Bool.and_eq_true] at hs
            have b1 := hp _ (List.mem_cons_self ..)
            have b2 := hp _ (List.mem_cons_of_mem _ (List.mem_cons_self ..))
            have b3 := hp _ (List.mem_cons_of_mem _ (List.mem_cons_of_mem _ (List.mem_cons_self ..)))
            have b4 := hp _ (List.mem_cons_of_mem _ (List.mem_cons_of_mem _ (List.mem_cons_of_mem _ (List.mem_singleton.2 rfl))))
            clear hp
            have hgd : guardA P f.eval h o.op = some (h.rdBit a.block) := by
              rw [ho]
              show sliceGuard P t (f.eval x) h = _
              unfold sliceGuard
              rw [ht, hx]
              simp only []
              rw [show Nat.ble n c = true by rw [Nat.ble_eq]; exact b1, hg]
              have hs1 := hs.1
              rw [Bool.or_comm] at hs1
              simp only [cond_true, hs1]
            refine evR_plain (by rw [ho]; rfl) hc.1 hc.2 hgd ?_
            unfold execOp
            rw [ho]
            simp only []
            generalize h.rdBit a.block = h0
            unfold Instr.sliceAt
            rw [hx]
            simp only [arunM_bind, arun_underlying ht, Option.bind_some]
            unfold Instr.slice Instr.sliceBounds
            have hif : ∀ (p : Prop) [Decidable p] (k : Nat), (if p then (some a) else (some a).map (·.add k)) = some ⟨a.block, a.off + (bif decide p then 0 else k), none⟩ := by
              intro p _ k
              by_cases hp : p
              · rw [if_pos hp]; simp only [hp, decide_true, cond_true, Nat.add_zero]; cases a; simp_all
              · rw [if_neg hp]; simp only [hp, decide_false, cond_false, Option.map_some, addr_add hsp]
            cases m with
            | none =>
              have hm' := boundAt_none hm
              cases rr with
              | none =>
                have hr' := boundAt_none hr
                cases l with
                | none =>
                  have hl' := boundAt_none hl
                  simp only [arunM_bind, arun_underlying ht, Option.bind_some, hl', hr', hm', arunM_pure, arun_sizeOf hinf, Option.elim, hif]
                  rfl
                | some li =>
                  obtain ⟨kl, hl'⟩ := boundAt_some hl
                  simp only [Option.elim] at b4
                  simp only [arunM_bind, arun_underlying ht, Option.bind_some, hl', hr', hm', arunM_pure, arun_sizeOf hinf, Option.elim, hif, Option.isSome_none, Bool.false_eq_true, if_false, arun_bound rfl b4]
                  rfl
              | some ri =>
                obtain ⟨kr, hr'⟩ := boundAt_some hr
                simp only [Option.elim] at b3
                cases l with
                | none =>
                  have hl' := boundAt_none hl
                  simp only [arunM_bind, arun_underlying ht, Option.bind_some, hl', hr', hm', arunM_pure, arun_sizeOf hinf, Option.elim, hif, if_true, arun_bound rfl b3]
                  rfl
                | some li =>
                  obtain ⟨kl, hl'⟩ := boundAt_some hl
                  simp only [Option.elim] at b4
                  simp only [arunM_bind, arun_underlying ht, Option.bind_some, hl', hr', hm', arunM_pure, arun_sizeOf hinf, Option.elim, hif, Option.isSome_none, Bool.false_eq_true, if_false, if_true, arun_bound rfl b3, arun_bound rfl b4]
                  rfl
            | some mi =>
              obtain ⟨km, hm'⟩ := boundAt_some hm
              simp only [Option.elim] at b2
              cases rr with
              | none => simp at hs
              | some ri =>
                obtain ⟨kr, hr'⟩ := boundAt_some hr
                simp only [Option.elim] at b3
                cases l with
                | none =>
                  have hl' := boundAt_none hl
                  simp only [arunM_bind, arun_underlying ht, Option.bind_some, hl', hr', hm', arunM_pure, arun_sizeOf hinf, Option.elim, hif, if_true, arun_bound rfl b2, arun_bound rfl b3]
                  rfl
                | some li =>
                  obtain ⟨kl, hl'⟩ := boundAt_some hl
                  simp only [Option.elim] at b4
                  simp only [arunM_bind, arun_underlying ht, Option.bind_some, hl', hr', hm', arunM_pure, arun_sizeOf hinf, Option.elim, hif, Option.isSome_some, if_true, arun_bound rfl b2, arun_bound rfl b3, arun_bound rfl b4]
                  rfl
        · cases e
      · cases e
    · cases e
def slRule : OpRule := ⟨slRun, sl_ok⟩
/-- The same, where the part does not begin at the end of the room. -/
def slRunNe (P : Program) (gl : Nat) (f : Fr) (o : Oper) (h : AH) : Option ((Value × AH) × List Prop) :=
  cond (o.op.operands.toList.all (operandOk gl) && !flatAll f o)
    (match o.op with
      | .slice t x lo hi mx => match P.underlying t, f.eval x, boundAt (lo.map f.eval), boundAt (hi.map f.eval), boundAt (mx.map f.eval) with
        | some (.slice elem), .slice (some a) n c, some l, some r, some m => match P.info? elem, a.spot, h.get a.block with
          | some inf, none, some (.cells _ e _ _ ex _) => cond ((Nat.beq (P.cellsOf e) (P.cellsOf elem) || ex) && (r.isSome || m.isNone))
              (some ((.slice (some ⟨a.block, a.off + (l.elim 0 Int.toNat) * inf.size, none⟩) ((r.elim n Int.toNat) - (l.elim 0 Int.toNat)) ((m.elim c Int.toNat) - (l.elim 0 Int.toNat)), h.rdBit a.block),
                [n ≤ c, m.elim True (fun m => 0 ≤ m ∧ m ≤ (c : Int)), r.elim True (fun r => 0 ≤ r ∧ r ≤ ((m.elim c Int.toNat : Nat) : Int)), l.elim True (fun l => 0 ≤ l ∧ l ≤ ((r.elim n Int.toNat : Nat) : Int)), (m.elim c Int.toNat) ≠ (l.elim 0 Int.toNat)])) none
          | _, _, _ => none
        | _, _, _, _, _ => none
      | _ => none) none
theorem slNe_ok : ∀ P gl f o h r ps, isCall P f o = none → slRunNe P gl f o h = some (r, ps) → All ps → evR P gl noF f o h = some r := by
  intro P gl f o h r ps hcall e hp
  have key : ∃ ps', slRun P gl f o h = some (r, ps') ∧ All ps' := by
    unfold slRunNe at e
    unfold slRun
    cases hc : (o.op.operands.toList.all (operandOk gl) && !flatAll f o) with
    | false => rw [hc] at e; cases e
    | true =>
      rw [hc] at e
      simp only [cond_true] at e ⊢
      split at e
      · rename_i t x lo hi mx ho
        split at e
        · rename_i elem a n c l rr m ht hx hl hr hm
          split at e
          · rename_i inf _ el _ _ ex _ hinf hsp hg
            cases hs : ((Nat.beq (P.cellsOf el) (P.cellsOf elem) || ex) && (rr.isSome || m.isNone)) with
            | false => rw [hs] at e; cases e
            | true =>
              rw [hs] at e
              cases e
              have b5 := hp _ (List.mem_cons_of_mem _ (List.mem_cons_of_mem _ (List.mem_cons_of_mem _ (List.mem_cons_of_mem _ (List.mem_singleton.2 rfl)))))
              simp only [cond_true, b5, decide_false, cond_false]
              refine ⟨_, rfl, fun p hq => hp p ?_⟩
              simp only [List.mem_cons, List.not_mem_nil, or_false] at hq ⊢
              rcases hq with rfl | rfl | rfl | rfl <;> simp
          · cases e
        · cases e
      · cases e
  obtain ⟨ps', e', hp'⟩ := key
  exact sl_ok P gl f o h r ps' hcall e' hp'
def slRuleNe : OpRule := ⟨slRunNe, slNe_ok⟩
end
end Go.Ev
namespace Go.Ev
open Go Go.RowKit

section
variable {P : Program} {gl : Nat}
def Tup (P : Program) (gl : Nat) (f : Fr) (h : AH) (ex : AExit) (f' : Fr) (h' : AH) (W : (Exit → Act → World → Prop) → Act → World → Prop) : Prop := WF h → small f.n = true → (Ext h h' ∧ WF h' ∧ f'.n = f.n) ∧
  ∀ (κ : K) (G : Nat → Option AObj) (a : Act) (w : World) (n0 : Nat) (Q : Exit → Act → World → Prop), KG gl κ → Rel P κ G w → FrR κ f a → DfR P κ w n0 f.ds a.defers → n0 ≤ w.heap.size → Agree h h' G → Fresh h h' κ G →
    (∀ κ' ex' a' w', ExR κ' ex ex' → Rel P κ' (merge h h' G) w' → FrR κ' f' a' → DfR P κ' w' n0 f'.ds a'.defers → KX h h' κ κ' w w' → Q ex' a' w') → W Q a w
abbrev RTup (P : Program) (gl : Nat) (c : Code) (n : Nat) (f : Fr) (h : AH) (ex : AExit) (f' : Fr) (h' : AH) : Prop := Tup P gl f h ex f' h' fun Q => Code.rounds P c Q n

theorem RTup.out {c : Code} {f : Fr} {h : AH} {ex : AExit} {f' : Fr} {h' : AH} (t : LTup P gl c f h ex f' h') (hn : ex ≠ .normal) : RTup P gl c 1 f h ex f' h' := by
  intro wf hs
  obtain ⟨x, s⟩ := t wf hs
  refine ⟨x, fun κ G a w n0 Q hg hrel hfr hdf hn0 hag hfs hq => ?_⟩
  show Code.rounds P c Q (0 + 1) a w
  rw [rounds_succ]
  exact s κ G a w n0 _ hg hrel hfr hdf hn0 hag hfs fun κ' ex' a' w' q0 q1 q2 q3 q4 => exit_then q0 hn (hq κ' ex' a' w' q0 q1 q2 q3 q4)
theorem RTup.round {c : Code} {n : Nat} {f f1 f2 : Fr} {h h1 h2 : AH} {ex : AExit} (t : LTup P gl c f h .normal f1 h1) (r : RTup P gl c n f1 h1 ex f2 h2) : RTup P gl c (n + 1) f h ex f2 h2 := by
  intro wf hs
  obtain ⟨⟨x1, wf1, hn1⟩, s1⟩ := t wf hs
  obtain ⟨⟨x2, wf2, hn2⟩, s2⟩ := r wf1 (by rw [hn1]; exact hs)
  refine ⟨⟨x1.trans x2, wf2, hn2.trans hn1⟩, fun κ G a w n0 Q hg hrel hfr hdf hn0 hag hfs hq => ?_⟩
  show Code.rounds P c Q (n + 1) a w
  rw [rounds_succ]
  refine s1 κ G a w n0 _ hg hrel hfr hdf hn0 (hag.left x2) (hfs.left x2) fun κ1 ex1 a1 w1 q0 q1 q2 q3 q4 => ?_
  cases q0
  refine s2 κ1 _ a1 w1 n0 Q (hg.mono q4.le) q1 q2 q3 (Nat.le_trans hn0 (step_kx q4)) (hag.right x1) (hfs.right x1 q4 fun id _ hw => wf1.wr id hw) fun κ2 ex2 a2 w2 r0 r1 r2 r3 r4 => ?_
  exact hq κ2 ex2 a2 w2 r0 (by rw [merge_merge x1 x2] at r1; exact r1) r2 r3 (q4.trans x1 x2 r4)
theorem RTup.loop {c : Code} {n : Nat} {f : Fr} {h : AH} {ex : AExit} {f' : Fr} {h' : AH} (r : RTup P gl c n f h ex f' h') : LTup P gl (.loop c) f h ex f' h' := by
  intro wf hs
  obtain ⟨x, s⟩ := r wf hs
  exact ⟨x, fun κ G a w n0 Q hg hrel hfr hdf hn0 hag hfs hq => wp_loop_rounds n (s κ G a w n0 Q hg hrel hfr hdf hn0 hag hfs hq)⟩
theorem LTup.block {c : Code} {id : Nat} {f : Fr} {h : AH} {f' : Fr} {h' : AH} (t : LTup P gl c f h (.exit id) f' h') : LTup P gl (.block id c) f h .normal f' h' := by
  intro wf hs
  obtain ⟨x, s⟩ := t wf hs
  refine ⟨x, fun κ G a w n0 Q hg hrel hfr hdf hn0 hag hfs hq => wp_block ?_⟩
  refine s κ G a w n0 _ hg hrel hfr hdf hn0 hag hfs fun κ' ex' a' w' q0 q1 q2 q3 q4 => ?_
  cases q0
  show if id = id then Q .normal a' w' else Q (.exit id) a' w'
  rw [if_pos rfl]
  exact hq κ' .normal a' w' .normal q1 q2 q3 q4
/-- Frames that hold the same. -/
structure FrEq (f g : Fr) : Prop where
  n : f.n = g.n
  ds : f.ds = g.ds
  at_ : ∀ i, i < g.n → f.get i = g.get i
  past : ∀ i, g.n ≤ i → g.get i = undef
theorem FrEq.rel {f g : Fr} (h : FrEq f g) {κ : K} {a : Act} (r : FrR κ f a) : FrR κ g a := by
  refine ⟨by rw [← h.n]; exact r.size, fun i => ?_⟩
  by_cases hi : i < g.n
  · rw [← h.at_ i hi]; exact r.at_ i
  · rw [h.past i (by omega)]
    have : a.tmps.getD i undef = undef := by
      rw [Array.getD_eq_getD_getElem?, Array.getElem?_eq_none (by rw [r.size, h.n]; omega)]; rfl
    rw [this]
    exact VR.flat _ undef_flat
/-- From a frame to another one that holds the same, ahead of the code. -/
theorem LTup.start {c : Code} {f g : Fr} {h : AH} {ex : AExit} {f' : Fr} {h' : AH} (e : FrEq f g) (t : LTup P gl c g h ex f' h') : LTup P gl c f h ex f' h' := by
  intro wf hs
  obtain ⟨x, s⟩ := t wf (by rw [← e.n]; exact hs)
  refine ⟨⟨x.1, x.2.1, by rw [x.2.2, e.n]⟩, fun κ G a w n0 Q hg hrel hfr hdf hn0 hag hfs hq => ?_⟩
  exact s κ G a w n0 Q hg hrel (e.rel hfr) (by rw [← e.ds]; exact hdf) hn0 hag hfs hq
/-- And behind it. -/
theorem LTup.end_ {c : Code} {f f1 g1 : Fr} {h : AH} {ex : AExit} {h' : AH} (e : FrEq f1 g1) (t : LTup P gl c f h ex f1 h') : LTup P gl c f h ex g1 h' := by
  intro wf hs
  obtain ⟨x, s⟩ := t wf hs
  refine ⟨⟨x.1, x.2.1, by rw [← e.n]; exact x.2.2⟩, fun κ G a w n0 Q hg hrel hfr hdf hn0 hag hfs hq => ?_⟩
  exact s κ G a w n0 Q hg hrel hfr hdf hn0 hag hfs fun κ' ex' a' w' q0 q1 q2 q3 q4 => hq κ' ex' a' w' q0 q1 (e.rel q2) (by rw [← e.ds]; exact q3) q4
/-- More may have been read ahead. -/
theorem LTup.reads {c : Code} {f f' : Fr} {h h1 h' : AH} {ex : AExit} (m : Marked h h1) (t : LTup P gl c f h1 ex f' h') : LTup P gl c f h ex f' h' := by
  intro wf hs
  obtain ⟨⟨x1, x2, x3⟩, s⟩ := t (m.wf wf) hs
  have hget : ∀ i, h1.get i = h.get i := fun i => by simp [AH.get, m.1]
  refine ⟨⟨m.ext.trans x1, x2, x3⟩, fun κ G a w n0 Q hg hrel hfr hdf hn0 hag hfs hq => ?_⟩
  have hmg : merge h1 h' G = merge h h' G := by unfold merge; rw [m.2.1]
  refine s κ G a w n0 Q hg hrel hfr hdf hn0 (fun i hi ht => ?_) (fun i hi hi' => hfs i (by rw [← m.2.1]; exact hi) hi') fun κ' ex' a' w' q0 q1 q2 q3 q4 => ?_
  · rw [hget]; exact hag i (by rw [← m.2.1]; exact hi) ht
  · exact hq κ' ex' a' w' q0 (hmg ▸ q1) q2 q3 ⟨q4.le, fun id hn => q4.dom id (by rw [m.2.1]; exact hn), q4.new, q4.keep, q4.same⟩

/-! ### frames by their slots -/

def lk : List (Nat × Value) → Nat → Option Value
  | [], _ => none
  | (j, v) :: l, i => cond (Nat.beq i j) (some v) (lk l i)
/-- A frame whose listed slots hold what is listed, the others what another one holds. -/
def canonF (N : Nat) (live : List (Nat × Value)) (J : Fr) : Fr := { t := ofArgs ((List.range N).map fun i => (lk live i).getD (J.get i)) 0 .nil, n := N }
theorem canonF_get {N : Nat} (hN : small N = true) (live : List (Nat × Value)) (J : Fr) (i : Nat) : (canonF N live J).get i = if i < N then (lk live i).getD (J.get i) else undef := by
  show ((ofArgs ((List.range N).map fun i => (lk live i).getD (J.get i)) 0 .nil).get i).getD undef = _
  have := ofArgs_get ((List.range N).map fun i => (lk live i).getD (J.get i)) 0 .nil N hN (by simp) i
  rw [this]
  simp only [Nat.zero_le, true_and, Nat.zero_add, List.length_map, List.length_range, Nat.sub_zero]
  by_cases hi : i < N
  · rw [if_pos hi, if_pos hi]; simp [hi]
  · rw [if_neg hi, if_neg hi]; rfl
/-- What a frame holds at the listed slots. -/
def Holds (f : Fr) : List (Nat × Value) → Prop
  | [] => True
  | (j, v) :: l => f.get j = v ∧ Holds f l
theorem Holds.lk {f : Fr} : ∀ {l : List (Nat × Value)}, Holds f l → ∀ i, (lk l i).getD (f.get i) = f.get i
  | [], _, _ => rfl
  | (j, v) :: l, h, i => by
    unfold Ev.lk
    cases hb : Nat.beq i j with
    | true =>
      rw [beq_eq, decide_eq_true_eq] at hb
      subst hb
      simp only [cond_true, Option.getD_some]
      exact h.1.symm
    | false => simp only [cond_false]; exact Holds.lk h.2 i
theorem canonF_eq {N : Nat} (hN : small N = true) {f : Fr} {live : List (Nat × Value)} (hn : f.n = N) (hd : f.ds = []) (hl : Holds f live) : FrEq f (canonF N live f) := by
  refine ⟨hn, hd, fun i hi => ?_, fun i hi => ?_⟩
  · have hi' : i < N := hi
    rw [canonF_get hN, if_pos hi', hl.lk]
  · have hi' : N ≤ i := hi
    rw [canonF_get hN, if_neg (Nat.not_lt.2 hi')]
/-- A loop in a block. 'D': what a round is told by; 'live': the slots that count; each round either goes on, or leaves by 'exit id'. -/
theorem LTup.readLoop {D : Type} {body : Code} {id N : Nat} (hN : small N = true) (h : AH) (μ : D → Nat) (I : D → Prop) (live : D → List (Nat × Value)) (fin : D → List (Nat × Value))
    (step : ∀ d f, I d → (∃ f1 d', LTup P gl body (canonF N (live d) f) h .normal f1 h ∧ f1.n = N ∧ f1.ds = [] ∧ Holds f1 (live d') ∧ I d' ∧ μ d' < μ d ∧ fin d' = fin d) ∨
      (∃ f1, LTup P gl body (canonF N (live d) f) h (.exit id) f1 h ∧ f1.n = N ∧ f1.ds = [] ∧ Holds f1 (fin d)))
    (d : D) (f : Fr) (hI : I d) (hn : f.n = N) (hd : f.ds = []) (hl : Holds f (live d)) :
    ∃ f1, LTup P gl (.block id (.loop body)) f h .normal f1 h ∧ f1.n = N ∧ f1.ds = [] ∧ Holds f1 (fin d) := by
  have key : ∀ m d f, μ d = m → I d → f.n = N → f.ds = [] → Holds f (live d) → ∃ k f1, RTup P gl body k f h (.exit id) f1 h ∧ f1.n = N ∧ f1.ds = [] ∧ Holds f1 (fin d) := by
    intro m
    induction m using Nat.strongRecOn with
    | ind m ih =>
      intro d f hm hI hn hd hl
      have he := canonF_eq hN hn hd hl
      rcases step d f hI with ⟨f1, d', t, n1, ds1, hl1, hI1, hμ, hfin⟩ | ⟨f1, t, n1, ds1, hl1⟩
      · obtain ⟨k, f2, r, n2, ds2, hl2⟩ := ih (μ d') (by omega) d' f1 rfl hI1 n1 ds1 hl1
        exact ⟨k + 1, f2, RTup.round (LTup.start he t) r, n2, ds2, hfin ▸ hl2⟩
      · exact ⟨1, f1, RTup.out (LTup.start he t) (by simp), n1, ds1, hl1⟩
  obtain ⟨k, f1, r, n1, ds1, hl1⟩ := key _ d f rfl hI hn hd hl
  exact ⟨f1, LTup.block r.loop, n1, ds1, hl1⟩
end
end Go.Ev
namespace Go.Ev
open Go Go.RowKit

section
variable {P : Program}
/-- A heap of one row. -/
def rowH (cs : List Value) (e : TypeId) (lo hi : Nat) (ex st : Bool) (rd : Nat) : AH := ⟨T.set 24 .nil 0 (some (.cells cs e lo hi ex st)), 1, rd, 0⟩
theorem rowH_get (cs : List Value) (e : TypeId) (lo hi : Nat) (ex st : Bool) (rd : Nat) : (rowH cs e lo hi ex st rd).get 0 = some (.cells cs e lo hi ex st) := rfl
theorem rowH_wf (cs : List Value) (e : TypeId) (lo hi : Nat) (ex st : Bool) (rd : Nat) : WF (rowH cs e lo hi ex st rd) := by
  refine ⟨fun id o h => ?_, fun id h => ?_⟩
  · have := T.get_set 24 (T.nil : T AObj) 0 (some (.cells cs e lo hi ex st)) id (by decide)
    have h' : (T.set 24 (T.nil : T AObj) 0 (some (.cells cs e lo hi ex st))).get id = some o := h
    rw [this] at h'
    by_cases hi : id = 0
    · subst hi; exact Nat.zero_lt_one
    · rw [if_neg hi] at h'; cases h'
  · have h' : (0 : Nat).testBit id = true := h
    simp at h'
theorem rowH_marked (cs : List Value) (e : TypeId) (lo hi : Nat) (ex st : Bool) : Marked (rowH cs e lo hi ex st 0) (rowH cs e lo hi ex st 1) :=
  ⟨rfl, rfl, rfl, fun id h => by have h' : (0 : Nat).testBit id = true := h; simp at h'⟩
theorem flat_mem {v : Value} : ∀ {l : List Value}, flatL l = true → v ∈ l → flatV v = true
  | [], _, h => by cases h
  | x :: l, hf, h => by
    simp only [flatL, Bool.and_eq_true] at hf
    rcases List.mem_cons.1 h with rfl | h
    · exact hf.1
    · exact flat_mem hf.2 h
theorem VL.split {κ : K} : ∀ {a b l : List Value}, VL κ (a ++ b) l → ∃ a' b', l = a' ++ b' ∧ VL κ a a' ∧ VL κ b b'
  | [], b, l, h => ⟨[], l, rfl, .nil, h⟩
  | x :: a, b, l, h => by
    cases h with
    | cons h1 h2 =>
      obtain ⟨a', b', rfl, q1, q2⟩ := VL.split h2
      exact ⟨_ :: a', b', rfl, .cons h1 q1, q2⟩
theorem CTup.row {g : FuncId} {cs : List Value} {e : TypeId} {lo hi : Nat} {ex st : Bool} {off n c rd : Nat} {front rest : List Value} {v : Value} {h0' : AH}
    (t : CTup P 0 g (front ++ .slice (some ⟨0, off, none⟩) n c :: rest) (rowH cs e lo hi ex st rd) (.ret v) h0') (hff : flatL front = true) (hf : flatL rest = true) (hv : flatV v = true) (hcs : flatL cs = true) (hw : h0'.wr.testBit 0 = false)
    {h1 : AH} {id : Nat} (hg : h1.get id = some (.cells cs e lo hi ex st)) : CTup P 0 g (front ++ .slice (some ⟨id, off, none⟩) n c :: rest) h1 (.ret v) (h1.rdBit id) := by
  intro wf1
  have hn : (rowH cs e lo hi ex st rd).n = 1 := rfl
  refine CTup.pure t (rowH_wf ..) hv (fun i hi => ?_) (fun _ => id) (Marked.rdBit h1 id) (fun κ0 κ1 hk l hl => ?_) (fun i hi' _ => ?_) (fun i i' hi hi' _ _ _ => ?_) (Nat.zero_le _) (fun g hg => absurd hg (Nat.not_lt_zero _)) wf1
  · rw [hn] at hi
    obtain rfl : i = 0 := by omega
    exact hw
  · obtain ⟨l1, l2, hl0, hl1, hl2⟩ := VL.split (b := .slice (some ⟨id, off, none⟩) n c :: rest) hl
    subst hl0
    have hl1' := VL.eq_of_flat hl1 hff
    subst hl1'
    refine VL.append (VL.flat _ hff) ?_
    cases hl2 with
    | cons h1 h2 =>
      have h2' := VL.eq_of_flat h2 hf
      subst h2'
      refine .cons ?_ (VL.flat _ hf)
      cases h1 with
      | slice hs =>
        obtain ⟨a1, a2, b, a3, a4⟩ := hs
        exact .slice ⟨a1, a2, b, by rw [hk 0 (by rw [hn]; omega)]; exact a3, a4⟩
  · rw [hn] at hi'
    obtain rfl : i = 0 := by omega
    refine ⟨?_, wf1.dom id _ hg, _, _, rowH_get .., hg, fun h => h, fun κ0 κ1 hk b w hin => ?_⟩
    · unfold AH.touched; rw [rd_rdBit]; simp
    · obtain ⟨q1, q2, q3, c', fz, q4, q5, q6, q7⟩ := hin
      refine ⟨q1, q2, q3, c', fz, q4, q5, fun i v hv => ?_, q7⟩
      obtain ⟨v', r1, r2⟩ := q6 i v hv
      refine ⟨v', r1, fun ho => ?_⟩
      have hfv : flatV v = true := flat_mem hcs (List.mem_of_getElem? hv)
      rw [VR.eq_of_flat (r2 ho) hfv]
      exact VR.flat v hfv
  · rw [hn] at hi hi'; omega

/-! ### loops as hints -/

structure BlockRule (P : Program) (gl : Nat) where
  id : Nat
  c0 : Code
  N : Nat
  h0 : AH
  h1 : AH
  entry : List (Nat × Value)
  fin : List (Nat × Value)
  small : small N = true
  ok : ∀ f, f.n = N → f.ds = [] → Holds f entry → ∃ f1, LTup P gl (.block id c0) f h0 .normal f1 h1 ∧ f1.n = N ∧ f1.ds = [] ∧ Holds f1 fin
open Classical in
noncomputable def BlockRule.rest {P : Program} {gl : Nat} (b : BlockRule P gl) (f : Fr) : Fr :=
  if hx : f.n = b.N ∧ f.ds = [] ∧ Holds f b.entry then (b.ok f hx.1 hx.2.1 hx.2.2).choose else f
noncomputable def BlockRule.hint {P : Program} {gl : Nat} (b : BlockRule P gl) (c : Code) (f : Fr) (h : AH) : Option ((AExit × Fr × AH) × List Prop) :=
  some ((.normal, canonF b.N b.fin (b.rest f), b.h1), [c = b.c0 ∧ f.n = b.N ∧ f.ds = [] ∧ h = b.h0 ∧ Holds f b.entry])
def selfP : List (Nat × Value) → Prop
  | [] => True
  | (_, v) :: l => v = v ∧ selfP l
def selfB {P : Program} {gl : Nat} (b : BlockRule P gl) : Prop := b.c0 = b.c0 ∧ b.N = b.N ∧ ([] : List Dfr) = [] ∧ b.h0 = b.h0 ∧ selfP b.entry
theorem selfP_true : ∀ l, selfP l
  | [] => trivial
  | (_, _) :: l => ⟨rfl, selfP_true l⟩
theorem selfB_true {gl : Nat} (b : BlockRule P gl) : selfB b := ⟨rfl, rfl, rfl, rfl, selfP_true _⟩
theorem BlockRule.hint_ok {gl : Nat} (b : BlockRule P gl) {c : Code} {f : Fr} {h : AH} {r : AExit × Fr × AH} {ps : List Prop} (e : b.hint c f h = some (r, ps)) (hp : All ps) : LTup P gl (.block b.id c) f h r.1 r.2.1 r.2.2 := by
  unfold BlockRule.hint at e
  cases e
  obtain ⟨rfl, hn, hd, rfl, hl⟩ := hp _ (List.mem_singleton.2 rfl)
  have hx : f.n = b.N ∧ f.ds = [] ∧ Holds f b.entry := ⟨hn, hd, hl⟩
  have hr : b.rest f = (b.ok f hx.1 hx.2.1 hx.2.2).choose := dif_pos hx
  obtain ⟨q1, q2, q3, q4⟩ := (b.ok f hx.1 hx.2.1 hx.2.2).choose_spec
  rw [← hr] at q1 q2 q3 q4
  exact LTup.end_ (canonF_eq b.small q2 q3 q4) q1

/-! ### hints of all kinds -/

/-- A call that reads the row of its first argument: what it gives back, and what it asks. -/
abbrev RowFn := List Value → List Value → TypeId → Nat → Nat → Nat → List Value → Option (Value × List Prop)
/-- The first slice among the arguments. -/
def splitSl : List Value → Option (List Value × Addr × Nat × Nat × List Value)
  | [] => none
  | .slice (some a) n c :: l => some ([], a, n, c, l)
  | v :: l => match splitSl l with
    | some (front, r) => some (v :: front, r)
    | none => none
theorem splitSl_eq : ∀ {l front : List Value} {a : Addr} {n c : Nat} {rest : List Value}, splitSl l = some (front, a, n, c, rest) → l = front ++ .slice (some a) n c :: rest
  | [], _, _, _, _, _, h => by cases h
  | v :: l, front, a, n, c, rest, h => by
    unfold splitSl at h
    split at h
    · cases h
    · rename_i heq; cases heq; cases h; rfl
    · rename_i heq
      cases heq
      split at h
      · rename_i hs; cases h; rw [splitSl_eq hs]; rfl
      · cases h
abbrev RowSums := List (FuncId × RowFn)
def RowSums.at (g : FuncId) : RowSums → Option RowFn
  | [] => none
  | (k, fn) :: l => cond (Nat.beq g k) (some fn) (RowSums.at g l)
def RowOk (P : Program) (g : FuncId) (fn : RowFn) : Prop := ∀ front cs e lo hi ex st off n c rest v pre, fn front cs e off n c rest = some (v, pre) → All pre → ∀ h id, h.get id = some (.cells cs e lo hi ex st) →
  CTup P 0 g (front ++ .slice (some ⟨id, off, none⟩) n c :: rest) h (.ret v) (h.rdBit id)
def RowSums.Ok (P : Program) (l : RowSums) : Prop := ∀ x ∈ l, RowOk P x.1 x.2
abbrev Blocks (P : Program) := List (FuncId × BlockRule P 0)
def Blocks.at (g id : Nat) : Blocks P → Option (BlockRule P 0)
  | [] => none
  | (k, b) :: l => cond (Nat.beq g k && Nat.beq id b.id) (some b) (Blocks.at g id l)
def rowCall (rows : RowSums) (g : FuncId) (args : List Value) (h : AH) : Option ((AEnd × AH) × List Prop) :=
  match RowSums.at g rows with
  | none => none
  | some fn => match splitSl args with
    | some (front, a, n, c, rest) => match a.spot, h.get a.block with
      | none, some (.cells cs e _ _ _ _) => match fn front cs e a.off n c rest with
        | some (v, pre) => some ((.ret v, h.rdBit a.block), pre)
        | none => none
      | _, _ => none
    | _ => none
noncomputable def rowHints (ops : OpHints) (sums : Sums) (rows : RowSums) (blocks : Blocks P) : Hints where
  op g s := OpHints.at g s ops
  call g args h := match Sums.at g sums with
    | some fn => match fn args with
      | some v => some ((.ret v, h), [])
      | none => rowCall rows g args h
    | none => rowCall rows g args h
  block g id c f h := match Blocks.at g id blocks with
    | some b => b.hint c f h
    | none => none
theorem RowSums.at_mem {g : FuncId} {fn : RowFn} : ∀ {l : RowSums}, RowSums.at g l = some fn → (g, fn) ∈ l
  | [], h => by cases h
  | (k, f) :: l, h => by
    unfold RowSums.at at h
    cases hk : Nat.beq g k with
    | true => rw [hk] at h; cases h; rw [beq_eq, decide_eq_true_eq] at hk; subst hk; exact List.mem_cons_self ..
    | false => rw [hk] at h; exact List.mem_cons_of_mem _ (RowSums.at_mem h)
theorem Blocks.at_id {g id : Nat} {b : BlockRule P 0} : ∀ {l : Blocks P}, Blocks.at g id l = some b → b.id = id
  | [], h => by cases h
  | (k, f) :: l, h => by
    unfold Blocks.at at h
    cases hk : (Nat.beq g k && Nat.beq id f.id) with
    | true =>
      rw [hk] at h; cases h
      simp only [Bool.and_eq_true, beq_eq, decide_eq_true_eq] at hk
      exact hk.2.symm
    | false => rw [hk] at h; exact Blocks.at_id h
theorem rowCall_ok {rows : RowSums} (hr : RowSums.Ok P rows) {g : FuncId} {args : List Value} {h : AH} {en : AEnd} {h1 : AH} {pre : List Prop} (e : rowCall rows g args h = some ((en, h1), pre)) (hp : All pre) : CTup P 0 g args h en h1 := by
  unfold rowCall at e
  split at e
  · cases e
  · rename_i fn hfn
    split at e
    · rename_i front a n c rest hsp
      have hargs := splitSl_eq hsp
      subst hargs
      split at e
      · rename_i cs el lo hi ex st hs hg
        split at e
        · rename_i v pre' hv
          cases e
          obtain ⟨blk, off, spot⟩ := a
          simp only at hs
          subst hs
          exact hr _ (RowSums.at_mem hfn) front cs el lo hi ex st off n c rest v _ hv hp h blk hg
        · cases e
      · cases e
    · cases e
theorem rowHints_ok {ops : OpHints} {sums : Sums} {rows : RowSums} {blocks : Blocks P} (hs : Sums.Ok P 0 sums) (hr : RowSums.Ok P rows) : (rowHints ops sums rows blocks).Ok P 0 := by
  refine ⟨fun g args h en h1 pre e hp => ?_, fun g id c f h ex f1 h1 pre e hp => ?_⟩
  · simp only [rowHints] at e
    split at e
    · rename_i fn hfn
      split at e
      · rename_i v hv; cases e; exact hs _ (Sums.at_mem hfn) args v hv h
      · exact rowCall_ok hr e hp
    · exact rowCall_ok hr e hp
  · simp only [rowHints] at e
    split at e
    · rename_i b hb
      have := b.hint_ok e hp
      rw [Blocks.at_id hb] at this
      exact this
    · cases e
theorem RowSums.Ok.nil : RowSums.Ok P [] := fun _ h => (by cases h)
theorem RowSums.Ok.cons {g : FuncId} {fn : RowFn} {l : RowSums} (h : RowOk P g fn) (hl : RowSums.Ok P l) : RowSums.Ok P ((g, fn) :: l) := by
  intro x hx
  rcases List.mem_cons.1 hx with rfl | hx
  · exact h
  · exact hl x hx

/-! ### from a run at the row's heap -/

def rowOut : PO (AEnd × AH) → Option (Value × List Prop)
  | some ((.ret v, h1), ps) => cond (flatV v && !h1.wr.testBit 0) (some (v, ps)) none
  | _ => none
theorem row_tup (hz : zerosFlat P = true) (hm : P.follows .mixedOrders = true) {H : Hints} (hH : H.Ok P 0) {k : Nat} {g : FuncId} {cs : List Value} {e : TypeId} {lo hi : Nat} {ex st : Bool} {off n c : Nat} {front rest : List Value} {v : Value} {ps : List Prop}
    (er : rowOut ((runHR P 0 H k).2 g (front ++ .slice (some ⟨0, off, none⟩) n c :: rest) (rowH cs e lo hi ex st 0)) = some (v, ps)) (hp : All ps) (hff : flatL front = true) (hf : flatL rest = true) (hcs : flatL cs = true) {h : AH} {id : Nat} (hg : h.get id = some (.cells cs e lo hi ex st)) :
    CTup P 0 g (front ++ .slice (some ⟨id, off, none⟩) n c :: rest) h (.ret v) (h.rdBit id) := by
  unfold rowOut at er
  split at er
  · rename_i v0 h1 qs he
    cases hc : (flatV v0 && !h1.wr.testBit 0) with
    | false => rw [hc] at er; cases er
    | true =>
      rw [hc] at er
      cases er
      simp only [Bool.and_eq_true, Bool.not_eq_true'] at hc
      exact (runHR_call hz hm hH he hp).row hff hf hc.1 hcs hc.2 hg
  · cases er
/-- A round of a loop: how it leaves, what the slots hold, where the heap is. -/
def roundOut (slots : List Nat) : PO (AExit × Fr × AH) → Option (AExit × List Value × Nat × AH × List Prop)
  | some ((ex, f, h), ps) => match f.ds with
    | [] => some (ex, slots.map f.get, f.n, h, ps)
    | _ => none
  | none => none
theorem round_tup (hz : zerosFlat P = true) (hm : P.follows .mixedOrders = true) {H : Hints} (hH : H.Ok P 0) {k : Nat} {g : FuncId} {c : Code} {f : Fr} {h : AH} {ex : AExit} {slots : List Nat} {vs : List Value} {N : Nat} {h1 : AH} {ps : List Prop}
    (er : roundOut slots ((runHR P 0 H k).1 g c f h) = some (ex, vs, N, h1, ps)) (hp : All ps) : ∃ f1, LTup P 0 c f h ex f1 h1 ∧ f1.n = N ∧ f1.ds = [] ∧ Holds f1 (slots.zip vs) := by
  unfold roundOut at er
  split at er
  · rename_i ex0 f0 h0 qs he
    split at er
    · rename_i hd
      cases er
      refine ⟨f0, runHR_code hz hm hH he hp, rfl, hd, ?_⟩
      clear he hp hd
      induction slots with
      | nil => trivial
      | cons s l ih => exact ⟨rfl, ih⟩
    · cases er
  · cases er
/-- The code of a block, by its number. -/
def findBlk (id : Nat) : Code → Option Code
  | .block j c => cond (Nat.beq j id) (some c) (findBlk id c)
  | .seq a b => match findBlk id a with
    | some c => some c
    | none => findBlk id b
  | .cond _ a b => match findBlk id a with
    | some c => some c
    | none => findBlk id b
  | .loop c => findBlk id c
  | .scope c => findBlk id c
  | _ => none
def blockIn (fn : Func) (id : Nat) : Code := match fn.body with
  | some c => (findBlk id c).getD .skip
  | none => .skip
def unLoop : Code → Code
  | .loop c => c
  | c => c
/-! ### rows of bytes -/

def byteAt (cs : List Value) (i : Nat) : Int := match nth cs i with
  | some (.int _ x) => x
  | _ => 0
structure Bytes (cs : List Value) (off n : Nat) : Prop where
  flat : flatL cs = true
  at_ : ∀ i, i < n → nth cs (off + i) = some (.int .u8 (byteAt cs (off + i)))
  lo : ∀ i, i < n → 0 ≤ byteAt cs (off + i)
  hi : ∀ i, i < n → byteAt cs (off + i) < 256
  small : n ≤ 140737488355328
abbrev W64i (x : Int) : Int := IntKind.i64.wrap x
abbrev bor (a b : Int) : Int := IntKind.i64.wrap ((BitVec.ofInt 64 a ||| BitVec.ofInt 64 b).toNat : Int)
abbrev band (a b : Int) : Int := IntKind.i64.wrap ((BitVec.ofInt 64 a &&& BitVec.ofInt 64 b).toNat : Int)
abbrev ldB (cs : List Value) : OpHint := .op (ldRule fun o => .int .u8 (byteAt cs o))
theorem wrap_in {x : Int} (h0 : -9223372036854775808 ≤ x) (h1 : x < 9223372036854775808) : W64i x = x := by
  unfold W64i IntKind.wrap
  simp only [IntKind.signed, IntKind.bits, Bool.true_and, decide_eq_true_eq, ge_iff_le]
  have e1 : (2 : Int) ^ 64 = 18446744073709551616 := by decide
  have e2 : (2 : Int) ^ (64 - 1) = 9223372036854775808 := by decide
  rw [e1, e2]
  split <;> omega
theorem ofInt_toNat {x : Int} (h0 : 0 ≤ x) (h1 : x < 18446744073709551616) : (BitVec.ofInt 64 x).toNat = x.toNat := by
  rw [BitVec.toNat_ofInt]
  have e : ((2 ^ 64 : Nat) : Int) = 18446744073709551616 := by decide
  rw [e, Int.emod_eq_of_lt h0 h1]
theorem bor_add {a b : Int} (k : Nat) (ha : 0 ≤ a) (hb0 : 0 ≤ b) (hb : b < 2 ^ k) (hs : a * 2 ^ k + b < 9223372036854775808) : bor (a * 2 ^ k) b = a * 2 ^ k + b := by
  have hp : (0 : Int) < 2 ^ k := Int.pow_pos (by decide)
  have hn : 0 ≤ a * 2 ^ k := Int.mul_nonneg ha (by omega)
  unfold bor
  rw [BitVec.toNat_or, ofInt_toNat hn (by omega), ofInt_toNat hb0 (by omega)]
  have e1 : (a * 2 ^ k).toNat = a.toNat <<< k := by
    rw [Nat.shiftLeft_eq]
    have : a * 2 ^ k = ((a.toNat * 2 ^ k : Nat) : Int) := by push_cast; rw [Int.toNat_of_nonneg ha]
    rw [this]; rfl
  have hb' : b.toNat < 2 ^ k := by
    have : ((b.toNat : Nat) : Int) < ((2 ^ k : Nat) : Int) := by push_cast; rw [Int.toNat_of_nonneg hb0]; exact hb
    exact_mod_cast this
  rw [e1, ← Nat.shiftLeft_add_eq_or_of_lt hb', ← e1]
  have e2 : (((a * 2 ^ k).toNat + b.toNat : Nat) : Int) = a * 2 ^ k + b := by omega
  rw [e2]
  exact wrap_in (by omega) hs
theorem band_mask {a : Int} (k : Nat) (hk : k < 63) (h0 : 0 ≤ a) (h1 : a < 9223372036854775808) : band a (2 ^ k - 1) = a % 2 ^ k := by
  have hp : (0 : Int) < 2 ^ k := Int.pow_pos (by decide)
  have hle : (2 : Int) ^ k ≤ 2 ^ 63 := by
    have : (2 : Nat) ^ k ≤ 2 ^ 63 := Nat.pow_le_pow_right (by decide) (by omega)
    exact_mod_cast this
  have e63 : (2 : Int) ^ 63 = 9223372036854775808 := by decide
  unfold band
  rw [BitVec.toNat_and, ofInt_toNat h0 (by omega), ofInt_toNat (by omega) (by omega)]
  have e1 : ((2 : Int) ^ k - 1).toNat = 2 ^ k - 1 := by
    have : (2 : Int) ^ k = ((2 ^ k : Nat) : Int) := by push_cast; rfl
    rw [this]; have := Nat.two_pow_pos k; omega
  rw [e1, Nat.and_two_pow_sub_one_eq_mod]
  have e2 : ((a.toNat % 2 ^ k : Nat) : Int) = a % 2 ^ k := by push_cast; rw [Int.toNat_of_nonneg h0]
  rw [e2]
  have := Int.emod_lt_of_pos a hp
  have := Int.emod_nonneg a (show (2 : Int) ^ k ≠ 0 by omega)
  exact wrap_in (by omega) (by omega)
theorem Bytes.le {cs : List Value} {off n m : Nat} (h : Bytes cs off n) (hm : m ≤ n) : Bytes cs off m :=
  ⟨h.flat, fun i hi => h.at_ i (by omega), fun i hi => h.lo i (by omega), fun i hi => h.hi i (by omega), by have := h.small; omega⟩
end
end Go.Ev
namespace Go.Ev
open Go Go.RowKit

section
variable {P : Program} {gl : Nat}
abbrev STup (P : Program) (gl : Nat) (body cur : Code) (f : Fr) (h : AH) (ex : AExit) (f' : Fr) (h' : AH) : Prop := Tup P gl f h ex f' h' fun Q a w =>
  ∀ (b : Frame) (k : List Item) (cs : List Frame), ∃ e a' w', Q e a' w' ∧ Arrives P (lone (b.at a (.code cur :: .inScope body :: k)) cs w) b k cs e a' w'
theorem STup.goto {body cur rest : Code} {l : Nat} {f f1 f2 : Fr} {h h1 h2 : AH} {ex : AExit} (hf : findLabel body l = some rest) (t : LTup P gl cur f h (.goto l) f1 h1) (r : STup P gl body rest f1 h1 ex f2 h2) : STup P gl body cur f h ex f2 h2 := by
  intro wf hsm
  obtain ⟨⟨x1, wf1, hn1⟩, s1⟩ := t wf hsm
  obtain ⟨⟨x2, wf2, hn2⟩, s2⟩ := r wf1 (by rw [hn1]; exact hsm)
  refine ⟨⟨x1.trans x2, wf2, hn2.trans hn1⟩, fun κ G a w n0 Q hg hrel hfr hdf hn0 hag hfs hq b k cs => ?_⟩
  have hgo : gotoIn l (.inScope body :: k) = some (.code rest :: .inScope body :: k) := by simp [gotoIn, hf]
  have := s1 κ G a w n0 (fun e a1 w1 => e = .goto l ∧ ∃ e2 a2 w2, Q e2 a2 w2 ∧ Arrives P (lone (b.at a1 (.code rest :: .inScope body :: k)) cs w1) b k cs e2 a2 w2) hg hrel hfr hdf hn0 (hag.left x2) (hfs.left x2) fun κ1 ex1 a1 w1 q0 q1 q2 q3 q4 => by
    cases q0
    exact ⟨rfl, s2 κ1 _ a1 w1 n0 Q (hg.mono q4.le) q1 q2 q3 (Nat.le_trans hn0 (step_kx q4)) (hag.right x1) (hfs.right x1 q4 fun id _ hw => wf1.wr id hw) (fun κ2 ex2 a2 w2 r0 r1 r2 r3 r4 =>
      hq κ2 ex2 a2 w2 r0 (by rw [merge_merge x1 x2] at r1; exact r1) r2 r3 (q4.trans x1 x2 r4)) b k cs⟩
  obtain ⟨e1, a1, w1, ⟨rfl, e2, a2, w2, hq2, harr2⟩, harr⟩ := this b (.inScope body :: k) cs
  exact ⟨e2, a2, w2, hq2, .of_steps (harr _ hgo) harr2⟩
theorem STup.ret {body cur : Code} {f f1 : Fr} {h h1 : AH} (t : LTup P gl cur f h .ret f1 h1) : STup P gl body cur f h .ret f1 h1 := by
  intro wf hsm
  obtain ⟨x1, s1⟩ := t wf hsm
  refine ⟨x1, fun κ G a w n0 Q hg hrel hfr hdf hn0 hag hfs hq b k cs => ?_⟩
  have := s1 κ G a w n0 (fun e a1 w1 => e = .ret ∧ Q e a1 w1) hg hrel hfr hdf hn0 hag hfs fun κ1 ex1 a1 w1 q0 q1 q2 q3 q4 => by
    cases q0
    exact ⟨rfl, hq κ1 .ret a1 w1 .ret q1 q2 q3 q4⟩
  obtain ⟨e1, a1, w1, ⟨rfl, hq1⟩, harr⟩ := this b (.inScope body :: k) cs
  exact ⟨.ret, a1, w1, hq1, harr⟩
theorem STup.scope {body : Code} {f f1 : Fr} {h h1 : AH} {ex : AExit} (t : STup P gl body body f h ex f1 h1) : LTup P gl (.scope body) f h ex f1 h1 := by
  intro wf hsm
  obtain ⟨x1, s1⟩ := t wf hsm
  refine ⟨x1, fun κ G a w n0 Q hg hrel hfr hdf hn0 hag hfs hq b k cs => ?_⟩
  obtain ⟨e, a', w', hq', harr⟩ := s1 κ G a w n0 Q hg hrel hfr hdf hn0 hag hfs hq b k cs
  exact ⟨e, a', w', hq', .of_steps (.one step_scope) harr⟩
theorem LTup.seq {a b : Code} {f f1 f2 : Fr} {h h1 h2 : AH} {ex : AExit} (t : LTup P gl a f h .normal f1 h1) (r : LTup P gl b f1 h1 ex f2 h2) : LTup P gl (.seq a b) f h ex f2 h2 := by
  intro wf hsm
  obtain ⟨⟨x1, wf1, hn1⟩, s1⟩ := t wf hsm
  obtain ⟨⟨x2, wf2, hn2⟩, s2⟩ := r wf1 (by rw [hn1]; exact hsm)
  refine ⟨⟨x1.trans x2, wf2, hn2.trans hn1⟩, fun κ G a w n0 Q hg hrel hfr hdf hn0 hag hfs hq => wp_seq ?_⟩
  refine s1 κ G a w n0 _ hg hrel hfr hdf hn0 (hag.left x2) (hfs.left x2) fun κ1 ex1 a1 w1 q0 q1 q2 q3 q4 => ?_
  cases q0
  refine s2 κ1 _ a1 w1 n0 Q (hg.mono q4.le) q1 q2 q3 (Nat.le_trans hn0 (step_kx q4)) (hag.right x1) (hfs.right x1 q4 fun id _ hw => wf1.wr id hw) fun κ2 ex2 a2 w2 r0 r1 r2 r3 r4 => ?_
  exact hq κ2 ex2 a2 w2 r0 (by rw [merge_merge x1 x2] at r1; exact r1) r2 r3 (q4.trans x1 x2 r4)
open Classical in
/-- From a function's code to its call. -/
theorem CTup.of_body {g : FuncId} {fn : Func} {c : Code} {args : List Value} {h h1 h2 : AH} {f1 : Fr} {en : AEnd} (hfn : P.funcs[g]? = some fn) (hb : fn.body = some c) (hs : small (args.length + (fn.ntmps - args.length)) = true)
    (t : LTup P gl c { t := ofArgs args 0 .nil, n := args.length + (fn.ntmps - args.length) } h .ret f1 h1) (hl : leaveA P (fun _ _ _ _ => none) fn f1.get f1.ds .ret h1 = some (en, h2)) : CTup P gl g args h en h2 := by
  let rec' : RecC := fun c' f' h' => if c' = c ∧ f' = { t := ofArgs args 0 .nil, n := args.length + (fn.ntmps - args.length) } ∧ h' = h then some (.ret, f1, h1) else none
  have hr : CodeSound P gl rec' := by
    intro c' f' h' ex f2 h3 e wf hsm
    simp only [rec'] at e
    split at e
    · rename_i hc
      obtain ⟨rfl, rfl, rfl⟩ := hc
      cases e
      exact t wf hsm
    · cases e
  have hd : DeferSound P gl (fun _ _ _ _ => none) := fun _ _ _ _ _ _ e => by cases e
  have e : stepF P rec' (fun _ _ _ _ => none) g args h = some (en, h2) := by
    unfold stepF
    rw [hfn]
    simp only []
    rw [hb]
    simp only [hs, cond_true]
    have : rec' c { t := ofArgs args 0 .nil, n := args.length + (fn.ntmps - args.length) } h = some (.ret, f1, h1) := if_pos ⟨rfl, rfl, rfl⟩
    rw [this]
    exact hl
  exact (stepF_sound hr hd).tup e

/-- A loop by goto. 'hp': the heap at the label; each round goes on or ends in 'return'. -/
theorem STup.gotoLoop {D : Type} {body rest : Code} {l N : Nat} (hN : small N = true) (hf : findLabel body l = some rest) (μ : D → Nat) (I : D → Prop) (live : D → List (Nat × Value)) (hp : D → AH) (fin : D → List (Nat × Value)) (hfin : D → AH)
    (step : ∀ d f, I d → (∃ f1 d', LTup P gl rest (canonF N (live d) f) (hp d) (.goto l) f1 (hp d') ∧ f1.n = N ∧ f1.ds = [] ∧ Holds f1 (live d') ∧ I d' ∧ μ d' < μ d ∧ fin d' = fin d ∧ hfin d' = hfin d) ∨
      (∃ f1, LTup P gl rest (canonF N (live d) f) (hp d) .ret f1 (hfin d) ∧ f1.n = N ∧ f1.ds = [] ∧ Holds f1 (fin d)))
    (d : D) (f : Fr) (hI : I d) (hn : f.n = N) (hd : f.ds = []) (hl : Holds f (live d)) :
    ∃ f1, STup P gl body rest f (hp d) .ret f1 (hfin d) ∧ f1.n = N ∧ f1.ds = [] ∧ Holds f1 (fin d) := by
  have key : ∀ m d f, μ d = m → I d → f.n = N → f.ds = [] → Holds f (live d) → ∃ f1, STup P gl body rest f (hp d) .ret f1 (hfin d) ∧ f1.n = N ∧ f1.ds = [] ∧ Holds f1 (fin d) := by
    intro m
    induction m using Nat.strongRecOn with
    | ind m ih =>
      intro d f hm hI hn hd hl
      have he := canonF_eq hN hn hd hl
      rcases step d f hI with ⟨f1, d', t, n1, ds1, hl1, hI1, hμ, hfe, hhe⟩ | ⟨f1, t, n1, ds1, hl1⟩
      · obtain ⟨f2, r, n2, ds2, hl2⟩ := ih (μ d') (by omega) d' f1 rfl hI1 n1 ds1 hl1
        rw [hhe] at r
        exact ⟨f2, STup.goto hf (LTup.start he t) r, n2, ds2, hfe ▸ hl2⟩
      · exact ⟨f1, STup.ret (LTup.start he t), n1, ds1, hl1⟩
  exact key _ d f rfl hI hn hd hl
/-! ### heaps that hold the same -/

structure HpEq (h g : AH) : Prop where
  n : h.n = g.n
  rd : h.rd = g.rd
  wr : h.wr = g.wr
  at_ : ∀ i, i < g.n → h.get i = g.get i
theorem HpEq.get {h g : AH} (e : HpEq h g) (wh : WF h) (wg : WF g) (i : Nat) : h.get i = g.get i := by
  by_cases hi : i < g.n
  · exact e.at_ i hi
  · have h1 : h.get i = none := by
      cases hq : h.get i with
      | none => rfl
      | some o => have := wh.dom i o hq; rw [e.n] at this; exact absurd this hi
    have h2 : g.get i = none := by
      cases hq : g.get i with
      | none => rfl
      | some o => exact absurd (wg.dom i o hq) hi
    rw [h1, h2]
theorem LTup.heap_end {c : Code} {f f1 : Fr} {h h1 g1 : AH} {ex : AExit} (e : HpEq h1 g1) (wg : WF g1) (t : LTup P gl c f h ex f1 h1) : LTup P gl c f h ex f1 g1 := by
  intro wf hs
  obtain ⟨⟨x, wh, hn⟩, s⟩ := t wf hs
  have hget := e.get wh wg
  refine ⟨⟨⟨by rw [← e.n]; exact x.n, fun i hi => by rw [← e.rd]; exact x.rd i hi, fun i hi => by rw [← e.wr]; exact x.wr i hi, fun i hi hw => by rw [← hget]; exact x.same i hi (by rw [e.wr]; exact hw)⟩, wg, hn⟩, fun κ G a w n0 Q hg hrel hfr hdf hn0 hag hfs hq => ?_⟩
  have hmg : merge h h1 G = merge h g1 G := by funext i; unfold merge; rw [e.n, e.wr, hget]
  refine s κ G a w n0 Q hg hrel hfr hdf hn0 (fun i hi ht => hag i hi (by unfold AH.touched at ht ⊢; rw [← e.rd, ← e.wr]; exact ht)) (fun i hi hi' => hfs i hi (by rw [← e.n]; exact hi')) fun κ' ex' a' w' q0 q1 q2 q3 q4 => ?_
  exact hq κ' ex' a' w' q0 (hmg ▸ q1) q2 q3 ⟨q4.le, fun id hn => q4.dom id (by rw [e.n]; exact hn), fun id b hb => by
    rcases q4.new id b hb with h | h | ⟨i, c, h1, h2, h3⟩
    · exact .inl h
    · exact .inr (.inl h)
    · exact .inr (.inr ⟨i, c, h1, h2, by rw [← e.wr]; exact h3⟩), fun k hk hn => q4.keep k hk fun id b hb hbk => by rw [e.wr]; exact hn id b hb hbk, q4.same⟩
/-- A round of a loop: how it leaves, what the slots hold, what the heap holds. -/
def roundOutH (slots ids : List Nat) : PO (AExit × Fr × AH) → Option (AExit × List Value × Nat × (Nat × Nat × Nat) × List (Option AObj) × List Prop)
  | some ((ex, f, h), ps) => match f.ds with
    | [] => some (ex, slots.map f.get, f.n, (h.n, h.rd, h.wr), ids.map h.get, ps)
    | _ => none
  | none => none
theorem round_tupH (hz : zerosFlat P = true) (hm : P.follows .mixedOrders = true) {H : Hints} (hH : H.Ok P 0) {k : Nat} {g : FuncId} {c : Code} {f : Fr} {h : AH} {ex : AExit} {slots ids : List Nat} {vs : List Value} {N : Nat} {m : Nat × Nat × Nat} {os : List (Option AObj)} {ps : List Prop}
    (er : roundOutH slots ids ((runHR P 0 H k).1 g c f h) = some (ex, vs, N, m, os, ps)) (hp : All ps) {g1 : AH} (wg : WF g1) (hm1 : (g1.n, g1.rd, g1.wr) = m) (hids : ids = List.range g1.n) (hos : os = ids.map g1.get) : ∃ f1, LTup P 0 c f h ex f1 g1 ∧ f1.n = N ∧ f1.ds = [] ∧ Holds f1 (slots.zip vs) := by
  unfold roundOutH at er
  split at er
  · rename_i ex0 f0 h0 qs he
    split at er
    · rename_i hd
      simp only [Option.some.injEq, Prod.mk.injEq] at er
      obtain ⟨rfl, rfl, rfl, rfl, rfl, rfl⟩ := er
      simp only [Prod.mk.injEq] at hm1
      have heq : HpEq h0 g1 := by
        refine ⟨hm1.1.symm, hm1.2.1.symm, hm1.2.2.symm, fun i hi => ?_⟩
        have := congrArg (fun l => l[i]?) hos
        simpa [hids, hi] using this
      refine ⟨f0, LTup.heap_end heq wg (runHR_code hz hm hH he hp), rfl, hd, ?_⟩
      clear he hp hd hos heq
      induction slots with
      | nil => trivial
      | cons s l ih => exact ⟨rfl, ih⟩
    · cases er
  · cases er
end
end Go.Ev
namespace Go.Ev
open Go Go.RowKit

section
variable {P : Program} {gl : Nat}

/-! ### a remainder -/

def remRun (v : Int) (_P : Program) (gl : Nat) (f : Fr) (o : Oper) (h : AH) : Option ((Value × AH) × List Prop) :=
  cond (o.op.operands.toList.all (operandOk gl))
    (match o.op with
      | .binOp .rem _ x y _ => match f.eval x, f.eval y with
        | .int .i64 a, .int .i64 b => some ((.int .i64 v, h), [b ≠ 0, a.tmod b = v])
        | _, _ => none
      | _ => none) none
theorem rem_ok (v : Int) : ∀ P gl f o h r ps, isCall P f o = none → remRun v P gl f o h = some (r, ps) → All ps → evR P gl noF f o h = some r := by
  intro P gl f o h r ps _ e hp
  unfold remRun at e
  cases hc : o.op.operands.toList.all (operandOk gl) with
  | false => rw [hc] at e; cases e
  | true =>
    rw [hc] at e
    simp only [cond_true] at e
    split at e
    · rename_i t x y ty ho
      split at e
      · rename_i a b hx hy
        cases e
        have h0 := hp _ (List.mem_cons_self ..)
        have h1 := hp _ (List.mem_cons_of_mem _ (List.mem_singleton.2 rfl))
        have hs : sp0 P gl f o h = none := by
          unfold sp0 checked special
          rw [hc, ho]; rfl
        unfold evR orEv
        rw [hs]
        simp only []
        unfold aop
        rw [hc]
        simp only [cond_true]
        rw [ho]
        simp only []
        unfold plainA
        have hfl : flatRoute P f.eval o = some (.int .i64 v) := by
          unfold flatRoute
          have hall : (o.op.operands.toList.all fun x => flatV (f.eval x)) = true := by
            rw [ho]
            simp [Op.operands, hx, hy, flatV]
          rw [hall]
          have : prun P (execOp f.eval o) = some (.value (.int .i64 v)) := by
            unfold execOp
            rw [ho]
            simp only [hx, hy]
            unfold eqGuard Go.binOp Op.intDiv
            simp only [ne_eq, not_true_eq_false, if_false, h0, ← h1]
            rfl
          rw [this]
          rfl
        rw [hfl]
      · cases e
    · cases e
def remRule (v : Int) : OpRule := ⟨remRun v, rem_ok v⟩

/-! ### a row's cells -/

def takeL (c : List Value) (o k : Nat) : List Value := (c.drop o).take k
theorem rdBit_twice (h : AH) (b : Nat) : (h.rdBit b).rdBit b = h.rdBit b := by
  unfold AH.rdBit
  simp only [Nat.or_assoc, Nat.or_self]
theorem arun_cellsFrom {c : List Value} {e : TypeId} {lo hi : Nat} {ex st : Bool} {a : Addr} (hs : a.spot = none) : ∀ (k i : Nat) (acc : Array Value) (h : AH), h.get a.block = some (.cells c e lo hi ex st) → a.off + i + k ≤ c.length →
    (takeL c (a.off + i) k).all oneCell = true → arun P (loadCellsFrom a i k acc) h = some (⟨acc.toList ++ takeL c (a.off + i) k⟩, if k = 0 then h else h.rdBit a.block)
  | 0, i, acc, h, _, _, _ => by
    simp [loadCellsFrom, takeL, pure, arun]
  | k + 1, i, acc, h, hg, hl, ho => by
    have hlt : a.off + i < c.length := by omega
    have hd : takeL c (a.off + i) (k + 1) = c[a.off + i] :: takeL c (a.off + (i + 1)) k := by
      unfold takeL
      rw [List.drop_eq_getElem_cons hlt, List.take_succ_cons]
      rfl
    rw [hd] at ho ⊢
    simp only [List.all_cons, Bool.and_eq_true] at ho
    have h1 : arun P (load (a.add i)) h = some (c[a.off + i], h.rdBit a.block) := by
      rw [addr_add hs]
      simp only [load, arun, hg, nth_eq, List.getElem?_eq_getElem hlt, ho.1, cond_true]
    have hg' : (h.rdBit a.block).get a.block = some (.cells c e lo hi ex st) := hg
    have ih := arun_cellsFrom hs k (i + 1) (acc.push c[a.off + i]) (h.rdBit a.block) hg' (by omega) ho.2
    have e' : loadCellsFrom a i (k + 1) acc = (load (a.add i)).bind fun v => loadCellsFrom a (i + 1) k (acc.push v) := rfl
    rw [e', arun_bind, h1]
    simp only [Option.bind_some]
    rw [ih]
    simp only [Nat.add_one_ne_zero, if_false, Array.toList_push, List.append_assoc, List.singleton_append]
    by_cases hk : k = 0
    · subst hk; simp
    · simp only [hk, if_false, rdBit_twice]
theorem arun_first {c : List Value} {e : TypeId} {lo hi : Nat} {ex st : Bool} {a : Addr} (hs : a.spot = none) {h : AH} (hg : h.get a.block = some (.cells c e lo hi ex st)) {m k cx : Nat} (hm : 0 < m) (hl : a.off + m ≤ c.length) (ho : (takeL c a.off m).all oneCell = true) :
    arun P (Builtin.firstCells 1 m (.slice (some a) k cx)) h = some (⟨takeL c a.off m⟩, h.rdBit a.block) := by
  have := arun_cellsFrom (P := P) hs m 0 #[] h hg (by omega) ho
  unfold Builtin.firstCells loadCells
  rw [Nat.mul_one, this, if_neg (by omega)]
  simp

/-! ### appending a row to nothing -/

def apNilRun (P : Program) (gl : Nat) (f : Fr) (o : Oper) (h : AH) : Option ((Value × AH) × List Prop) :=
  cond (o.op.operands.toList.all (operandOk gl))
    (match o.op with
      | .call c => match c.callee, c.argTypes.toList, c.args.toList.map f.eval with
        | .builtin .append, [t, xt], [.slice none 0 0, .slice (some a) m _] => match P.underlying t, P.underlying xt, a.spot, h.get a.block with
          | some (.slice e), some (.slice _), none, some (.cells cs _ _ _ _ _) => match P.info? e with
            | some i => match i.zero with
              | some z => cond (Nat.beq i.size 1 && Nat.beq i.bytes 1 && Nat.beq z.cells.size 1 && Nat.beq (P.cellsOf e) 1 && small h.n)
                (some ((.slice (some ⟨h.n, 0, none⟩) m m, (h.rdBit a.block).push (.cells (takeL cs a.off m) e 0 0 false false)),
                  [0 < m, m ≤ 140737488355328, a.off + m ≤ cs.length, (takeL cs a.off m).all oneCell = true])) none
              | none => none
            | none => none
          | _, _, _, _ => none
        | _, _, _ => none
      | _ => none) none
theorem sp0_append {f : Fr} {o : Oper} {h : AH} {c : Call} (ho : o.op = .call c) (hc : c.callee = .builtin .append) : sp0 P gl f o h = none := by
  unfold sp0 checked special
  cases o.op.operands.toList.all (operandOk gl) with
  | false => rfl
  | true =>
    rw [ho]
    simp only [cond_true]
    rw [hc]
theorem len_takeL {c : List Value} {o k : Nat} (h : o + k ≤ c.length) : (takeL c o k).length = k := by
  unfold takeL; simp; omega
theorem apNil_ok : ∀ P gl f o h r ps, isCall P f o = none → apNilRun P gl f o h = some (r, ps) → All ps → evR P gl noF f o h = some r := by
  intro P gl f o h r ps _ e hp
  unfold apNilRun at e
  cases hc : o.op.operands.toList.all (operandOk gl) with
  | false => rw [hc] at e; cases e
  | true =>
    rw [hc] at e
    simp only [cond_true] at e
    split at e
    · rename_i cl ho
      split at e
      · rename_i t xt a m cx hcal hat hargs
        split at e
        · rename_i el ex' cs e0 lo hi ex st ht hxt hsp hg
          split at e
          · rename_i i hi
            split at e
            · rename_i z hz
              cases hs : (Nat.beq i.size 1 && Nat.beq i.bytes 1 && Nat.beq z.cells.size 1 && Nat.beq (P.cellsOf el) 1 && small h.n) with
              | false => rw [hs] at e; cases e
              | true =>
                rw [hs] at e
                cases e
                simp only [Bool.and_eq_true, beq_eq, decide_eq_true_eq] at hs
                obtain ⟨⟨⟨⟨s1, s2⟩, s3⟩, s4⟩, s5⟩ := hs
                have b1 := hp _ (List.mem_cons_self ..)
                have b2 := hp _ (List.mem_cons_of_mem _ (List.mem_cons_self ..))
                have b3 := hp _ (List.mem_cons_of_mem _ (List.mem_cons_of_mem _ (List.mem_cons_self ..)))
                have b4 := hp _ (List.mem_cons_of_mem _ (List.mem_cons_of_mem _ (List.mem_cons_of_mem _ (List.mem_singleton.2 rfl))))
                clear hp
                unfold evR orEv
                rw [sp0_append ho hcal]
                simp only []
                unfold aop
                rw [hc]
                simp only [cond_true]
                rw [ho]
                simp only []
                rw [hcal]
                simp only []
                rw [hat, hargs]
                have hl : arun P (Builtin.lenOf (.slice (some a) m cx)) h = some (m, h) := rfl
                have hn0 : arun P (Builtin.firstCells i.size 0 (.slice none 0 0)) h = some (#[], h) := rfl
                have hn1 : arun P (Builtin.firstCells i.size m (.slice (some a) m cx)) h = some (⟨takeL cs a.off m⟩, h.rdBit a.block) := by
                  rw [s1]; exact arun_first hsp hg b1 b3 b4
                have hfit : fitA P t (.slice none 0 0) (.slice (some a) m cx) h = none := by
                  unfold fitA
                  simp only [ht, hi, hl]
                  rw [show Nat.ble (0 + m) 0 = false by rw [Bool.eq_false_iff, ne_eq, Nat.ble_eq]; omega]
                  rfl
                have hgrow : growA P t (.slice none 0 0) (.slice (some a) m cx) h = some (.slice (some ⟨h.n, 0, none⟩) m m, (h.rdBit a.block).push (.cells (takeL cs a.off m) el 0 0 false false)) := by
                  unfold growA
                  simp only [ht, hi, hz, hl, hn0, hn1]
                  have hlen := len_takeL b3
                  have hcond : (Nat.blt 0 (0 + m) && Nat.ble ((0 + m) * i.bytes) 140737488355328 && Nat.ble (0 + m) 140737488355328 && small (h.rdBit a.block).n && Nat.beq z.cells.size i.size && Nat.beq (#[] : Array Value).size (0 * i.size) && Nat.beq (⟨takeL cs a.off m⟩ : Array Value).size (m * i.size) && (⟨takeL cs a.off m⟩ : Array Value).toList.all oneCell && Nat.beq (P.cellsOf el) i.size) = true := by
                    simp only [Bool.and_eq_true, beq_eq, decide_eq_true_eq, Nat.ble_eq, Nat.blt_eq, s1, s2, s3, s4, Nat.mul_one, Nat.zero_add]
                    refine ⟨⟨⟨⟨⟨⟨⟨⟨b1, b2⟩, b2⟩, s5⟩, trivial⟩, rfl⟩, ?_⟩, b4⟩, trivial⟩
                    show (takeL cs a.off m).length = m
                    exact hlen
                  rw [hcond]
                  simp only [cond_true, growIn, Nat.zero_add]
                  rfl
                unfold appendA
                simp only [hxt, hfit, hgrow]
            · cases e
          · cases e
        · cases e
      · cases e
    · cases e
def apNilRule : OpRule := ⟨apNilRun, apNil_ok⟩
end
end Go.Ev
namespace Go.Ev
open Go Go.RowKit

section
variable {P : Program} {gl : Nat}

/-! ### appending a row to a row -/

def apRun (P : Program) (gl : Nat) (f : Fr) (o : Oper) (h : AH) : Option ((Value × AH) × List Prop) :=
  cond (o.op.operands.toList.all (operandOk gl))
    (match o.op with
      | .call c => match c.callee, c.argTypes.toList, c.args.toList.map f.eval with
        | .builtin .append, [t, xt], [.slice (some b) n0 c0, .slice (some a) m _] => match P.underlying t, P.underlying xt, a.spot, h.get a.block with
          | some (.slice e), some (.slice _), none, some (.cells cs _ _ _ _ _) => match P.info? e, b.spot, h.get b.block with
            | some i, none, some (.cells c1 e1 0 0 false false) => match i.zero with
              | some z => cond (Nat.beq i.size 1 && Nat.beq i.bytes 1 && Nat.beq z.cells.size 1 && Nat.beq (P.cellsOf e) 1 && Nat.beq e1 e && small h.n && small b.block)
                (some ((.slice (some ⟨h.n, 0, none⟩) (n0 + m) (n0 + m), (((h.rdBit b.block).rdBit a.block).kill b.block).push (.cells (takeL c1 b.off n0 ++ takeL cs a.off m) e 0 0 false false)),
                  [0 < n0, 0 < m, c0 < n0 + m, n0 + m ≤ 140737488355328, b.off + n0 ≤ c1.length, a.off + m ≤ cs.length, (takeL c1 b.off n0).all oneCell = true, (takeL cs a.off m).all oneCell = true])) none
              | none => none
            | _, _, _ => none
          | _, _, _, _ => none
        | _, _, _ => none
      | _ => none) none
theorem ap_ok : ∀ P gl f o h r ps, isCall P f o = none → apRun P gl f o h = some (r, ps) → All ps → evR P gl noF f o h = some r := by
  intro P gl f o h r ps _ e hp
  unfold apRun at e
  cases hc : o.op.operands.toList.all (operandOk gl) with
  | false => rw [hc] at e; cases e
  | true =>
    rw [hc] at e
    simp only [cond_true] at e
    split at e
    · rename_i cl ho
      split at e
      · rename_i t xt b n0 c0 a m cx hcal hat hargs
        split at e
        · rename_i el ex' cs e0 lo hi ex st ht hxt hsp hg
          split at e
          · rename_i i c1 e1 hi hsb hgb
            split at e
            · rename_i z hz
              cases hs : (Nat.beq i.size 1 && Nat.beq i.bytes 1 && Nat.beq z.cells.size 1 && Nat.beq (P.cellsOf el) 1 && Nat.beq e1 el && small h.n && small b.block) with
              | false => rw [hs] at e; cases e
              | true =>
                rw [hs] at e
                cases e
                simp only [Bool.and_eq_true, beq_eq, decide_eq_true_eq] at hs
                obtain ⟨⟨⟨⟨⟨⟨s1, s2⟩, s3⟩, s4⟩, s5⟩, s6⟩, s7⟩ := hs
                subst s5
                have b1 := hp _ (by simp : (0 < n0) ∈ _)
                have hp2 : All [0 < m, c0 < n0 + m, n0 + m ≤ 140737488355328, b.off + n0 ≤ c1.length, a.off + m ≤ cs.length, (takeL c1 b.off n0).all oneCell = true, (takeL cs a.off m).all oneCell = true] := fun p hp' => hp p (List.mem_cons_of_mem _ hp')
                have b2 : 0 < m := hp2 _ (List.mem_cons_self ..)
                have hp3 : All [c0 < n0 + m, n0 + m ≤ 140737488355328, b.off + n0 ≤ c1.length, a.off + m ≤ cs.length, (takeL c1 b.off n0).all oneCell = true, (takeL cs a.off m).all oneCell = true] := fun p hp' => hp2 p (List.mem_cons_of_mem _ hp')
                have b3 : c0 < n0 + m := hp3 _ (List.mem_cons_self ..)
                have hp4 : All [n0 + m ≤ 140737488355328, b.off + n0 ≤ c1.length, a.off + m ≤ cs.length, (takeL c1 b.off n0).all oneCell = true, (takeL cs a.off m).all oneCell = true] := fun p hp' => hp3 p (List.mem_cons_of_mem _ hp')
                have b4 : n0 + m ≤ 140737488355328 := hp4 _ (List.mem_cons_self ..)
                have hp5 : All [b.off + n0 ≤ c1.length, a.off + m ≤ cs.length, (takeL c1 b.off n0).all oneCell = true, (takeL cs a.off m).all oneCell = true] := fun p hp' => hp4 p (List.mem_cons_of_mem _ hp')
                have b5 : b.off + n0 ≤ c1.length := hp5 _ (List.mem_cons_self ..)
                have hp6 : All [a.off + m ≤ cs.length, (takeL c1 b.off n0).all oneCell = true, (takeL cs a.off m).all oneCell = true] := fun p hp' => hp5 p (List.mem_cons_of_mem _ hp')
                have b6 : a.off + m ≤ cs.length := hp6 _ (List.mem_cons_self ..)
                have hp7 : All [(takeL c1 b.off n0).all oneCell = true, (takeL cs a.off m).all oneCell = true] := fun p hp' => hp6 p (List.mem_cons_of_mem _ hp')
                have b7 : (takeL c1 b.off n0).all oneCell = true := hp7 _ (List.mem_cons_self ..)
                have b8 : (takeL cs a.off m).all oneCell = true := hp7 _ (List.mem_cons_of_mem _ (List.mem_cons_self ..))
                clear hp hp2 hp3 hp4 hp5 hp6 hp7
                unfold evR orEv
                rw [sp0_append ho hcal]
                simp only []
                unfold aop
                rw [hc]
                simp only [cond_true]
                rw [ho]
                simp only []
                rw [hcal]
                simp only []
                rw [hat, hargs]
                have hl : arun P (Builtin.lenOf (.slice (some a) m cx)) h = some (m, h) := rfl
                have hn0 : arun P (Builtin.firstCells i.size n0 (.slice (some b) n0 c0)) h = some (⟨takeL c1 b.off n0⟩, h.rdBit b.block) := by
                  rw [s1]; exact arun_first hsb hgb b1 b5 b7
                have hn1 : arun P (Builtin.firstCells i.size m (.slice (some a) m cx)) (h.rdBit b.block) = some (⟨takeL cs a.off m⟩, (h.rdBit b.block).rdBit a.block) := by
                  rw [s1]; exact arun_first (h := h.rdBit b.block) hsp hg b2 b6 b8
                have hfit : fitA P t (.slice (some b) n0 c0) (.slice (some a) m cx) h = none := by
                  unfold fitA
                  simp only [ht, hi, hl]
                  rw [show Nat.ble (n0 + m) c0 = false by rw [Bool.eq_false_iff, ne_eq, Nat.ble_eq]; omega]
                  rfl
                have hgrow : growA P t (.slice (some b) n0 c0) (.slice (some a) m cx) h = some (.slice (some ⟨h.n, 0, none⟩) (n0 + m) (n0 + m), (((h.rdBit b.block).rdBit a.block).kill b.block).push (.cells (takeL c1 b.off n0 ++ takeL cs a.off m) e1 0 0 false false)) := by
                  unfold growA
                  simp only [ht, hi, hz, hl, hn0, hn1]
                  have hlen0 := len_takeL b5
                  have hlen1 := len_takeL b6
                  have hcond : (Nat.blt c0 (n0 + m) && Nat.ble ((n0 + m) * i.bytes) 140737488355328 && Nat.ble (n0 + m) 140737488355328 && small ((h.rdBit b.block).rdBit a.block).n && Nat.beq z.cells.size i.size && Nat.beq (⟨takeL c1 b.off n0⟩ : Array Value).size (n0 * i.size) && Nat.beq (⟨takeL cs a.off m⟩ : Array Value).size (m * i.size) && (⟨takeL cs a.off m⟩ : Array Value).toList.all oneCell && Nat.beq (P.cellsOf e1) i.size) = true := by
                    simp only [Bool.and_eq_true, beq_eq, decide_eq_true_eq, Nat.ble_eq, Nat.blt_eq, s1, s2, s3, s4, Nat.mul_one]
                    refine ⟨⟨⟨⟨⟨⟨⟨⟨b3, b4⟩, b4⟩, s6⟩, trivial⟩, ?_⟩, ?_⟩, b8⟩, trivial⟩
                    · show (takeL c1 b.off n0).length = n0
                      exact hlen0
                    · show (takeL cs a.off m).length = m
                      exact hlen1
                  rw [hcond]
                  have hgb' : ((h.rdBit b.block).rdBit a.block).get b.block = some (.cells c1 e1 0 0 false false) := hgb
                  have hcd : (Nat.ble 0 0 && Nat.beq e1 e1 && Nat.beq (P.cellsOf e1) i.size && small b.block && (Nat.ble 0 0 || (Nat.ble b.off 0 && Nat.ble 0 (b.off + n0 * i.size) && !(Nat.beq n0 0)))) = true := by
                    simp only [s1, s4, s7, beq_eq, decide_true, Bool.and_true, show Nat.ble 0 0 = true from rfl, Bool.true_or]
                  simp only [cond_true, growIn, hgb', cond_false, hcd, Nat.zero_sub]
                  rfl
                unfold appendA
                simp only [hxt, hfit, hgrow]
            · cases e
          · cases e
        · cases e
      · cases e
    · cases e
def apRule : OpRule := ⟨apRun, ap_ok⟩
end
end Go.Ev
namespace Go.Ev
open Go Go.RowKit

section
variable {P : Program} {gl : Nat}
theorem prun_bind {α β : Type} (s : Sem α) (f : α → Sem β) : prun P (s.bind f) = (prun P s).bind fun a => prun P (f a) := by
  induction s with
  | pure a => rfl
  | program k ih => simp only [Sem.bind, prun]; exact ih P
  | mark m k ih => simp only [Sem.bind, prun]; exact ih
  | choose q k ih =>
    simp only [Sem.bind, prun]
    cases q.forced with
    | false => rfl
    | true => exact ih 0
  | _ => rfl
theorem prunM_bind {α β : Type} (s : Sem α) (f : α → Sem β) : prun P (s >>= f) = (prun P s).bind fun a => prun P (f a) := prun_bind s f
theorem prun_pure {α : Type} (a : α) : prun P (pure a : Sem α) = some a := rfl
theorem prun_program : prun P program = some P := rfl
theorem prun_underlying {t : TypeId} {d : TypeDesc} (ht : P.underlying t = some d) : prun P (underlying t) = some d := by
  unfold underlying
  rw [prunM_bind]
  simp only [prun_program, Option.bind_some, ht]
  rfl
theorem prun_sizeOf {t : TypeId} {i : TypeInfo} (ht : P.info? t = some i) : prun P (sizeOf t) = some i.size := by
  unfold sizeOf typeInfo
  rw [prunM_bind, prunM_bind]
  simp only [prun_program, Option.bind_some, ht]
  rfl
/-- Values that equal themselves, whatever their numbers. -/
def selfEq (P : Program) : Nat → TypeId → Value → Bool
  | 0, _, _ => false
  | d + 1, t, v => match P.underlying t, v with
    | some .bool, .bool _ => true
    | some (.int _), .int _ _ => true
    | some .string, .string _ => true
    | some (.struct fs), .agg xs => !P.stoodInHeld t && fs.toList.all fun f => f.name == "_" || (match prun P (part f.type xs f.offset) with
      | some u => selfEq P d f.type u
      | none => false)
    | some (.array n e), .agg xs => match P.info? e with
      | some i => (List.range n).all fun j => match prun P (part e xs (j * i.size)) with
        | some u => selfEq P d e u
        | none => false
      | none => false
    | _, _ => false
theorem selfEq_ok : ∀ {m : Nat} {t : TypeId} {v : Value} {d : Nat}, selfEq P m t v = true → m ≤ d → prun P (Op.equalIn d t v v) = some true
  | 0, _, _, _, h, _ => by cases h
  | m + 1, t, v, d, h, hd => by
    obtain ⟨d, rfl⟩ : ∃ d', d = d' + 1 := ⟨d - 1, by omega⟩
    unfold selfEq at h
    split at h
    · rename_i b ht
      simp only [Op.equalIn, prunM_bind, prun_underlying ht, Option.bind_some, prun_pure, beq_self_eq_true]
    · rename_i k n x ht
      simp only [Op.equalIn, prunM_bind, prun_underlying ht, Option.bind_some, if_true, prun_pure, beq_self_eq_true]
    · rename_i s ht
      simp only [Op.equalIn, prunM_bind, prun_underlying ht, Option.bind_some, prun_pure]
      obtain ⟨x⟩ := s
      show some (x == x) = some true
      simp
    · rename_i fs xs ht
      simp only [Bool.and_eq_true, Bool.not_eq_true'] at h
      obtain ⟨h1, h2⟩ := h
      simp only [Op.equalIn, prunM_bind, prun_underlying ht, Option.bind_some, prun_program, h1, Bool.false_eq_true, if_false]
      rw [← Array.forIn_toList]
      generalize fs.toList = l at h2
      clear ht
      induction l with
      | nil => simp [prun_pure]
      | cons f l ih =>
        simp only [List.all_cons, Bool.and_eq_true] at h2
        obtain ⟨h3, h4⟩ := h2
        have ih' := ih h4
        simp only [List.forIn_cons, prunM_bind] at ih' ⊢
        by_cases hn : f.name = "_"
        · simp only [hn, ne_eq, not_true_eq_false, if_false, prun_pure, Option.bind_some]
          exact ih'
        · have h3' : (match prun P (part f.type xs f.offset) with
            | some u => selfEq P m f.type u
            | none => false) = true := by simpa [hn] using h3
          cases hp : prun P (part f.type xs f.offset) with
          | none => rw [hp] at h3'; cases h3'
          | some u =>
            rw [hp] at h3'
            have := selfEq_ok (d := d) h3' (by omega)
            simp only [ne_eq, hn, not_false_eq_true, if_true, prunM_bind, hp, Option.bind_some, this, Bool.not_true, Bool.false_eq_true, if_false, prun_pure]
            exact ih'
    · rename_i n e xs ht
      split at h
      · rename_i i hi
        simp only [Op.equalIn, prunM_bind, prun_underlying ht, Option.bind_some, prun_sizeOf hi]
        simp only [Std.Legacy.Range.forIn_eq_forIn_range', Std.Legacy.Range.size, Nat.sub_zero, Nat.add_one_sub_one, Nat.div_one]
        rw [List.range_eq_range'] at h
        generalize List.range' 0 n = l at h
        clear ht
        induction l with
        | nil => simp [prun_pure]
        | cons j l ih =>
          simp only [List.all_cons, Bool.and_eq_true] at h
          obtain ⟨h3, h4⟩ := h
          have ih' := ih h4
          simp only [List.forIn_cons, prunM_bind] at ih' ⊢
          cases hp : prun P (part e xs (j * i.size)) with
          | none => rw [hp] at h3; cases h3
          | some u =>
            rw [hp] at h3
            have := selfEq_ok (d := d) h3 (by omega)
            simp only [Option.bind_some, this, Bool.not_true, Bool.false_eq_true, if_false, prun_pure]
            exact ih'
      · cases h
    · cases h

/-! ### what equals itself, asked -/

def eqRun (P : Program) (gl : Nat) (f : Fr) (o : Oper) (h : AH) : Option ((Value × AH) × List Prop) :=
  cond (o.op.operands.toList.all (operandOk gl))
    (match o.op with
      | .binOp .eql t x y _ => match f.eval x, f.eval y with
        | .agg ⟨xs⟩, .agg ⟨ys⟩ => cond (selfEq P 8 t (.agg ⟨xs⟩) && !P.eqGuardType P.depth t && flatL xs && flatL ys) (some ((.bool true, h), [xs = ys])) none
        | _, _ => none
      | _ => none) none
theorem eq_ok : ∀ P gl f o h r ps, isCall P f o = none → eqRun P gl f o h = some (r, ps) → All ps → evR P gl noF f o h = some r := by
  intro P gl f o h r ps _ e hp
  unfold eqRun at e
  cases hc : o.op.operands.toList.all (operandOk gl) with
  | false => rw [hc] at e; cases e
  | true =>
    rw [hc] at e
    simp only [cond_true] at e
    split at e
    · rename_i t x y ty ho
      split at e
      · rename_i xs ys hx hy
        cases hs : (selfEq P 8 t (.agg ⟨xs⟩) && !P.eqGuardType P.depth t && flatL xs && flatL ys) with
        | false => rw [hs] at e; cases e
        | true =>
          rw [hs] at e
          cases e
          simp only [Bool.and_eq_true, Bool.not_eq_true'] at hs
          obtain ⟨⟨⟨s1, s2⟩, s3⟩, s4⟩ := hs
          have h0 := hp _ (List.mem_singleton.2 rfl)
          subst h0
          have hsp : sp0 P gl f o h = none := by
            unfold sp0 checked special
            rw [hc, ho]; rfl
          unfold evR orEv
          rw [hsp]
          simp only []
          unfold aop
          rw [hc]
          simp only [cond_true]
          rw [ho]
          simp only []
          unfold plainA
          have hfl : flatRoute P f.eval o = some (.bool true) := by
            unfold flatRoute
            have hall : (o.op.operands.toList.all fun x => flatV (f.eval x)) = true := by
              rw [ho]
              simp only [Op.operands, hx, hy, List.all_cons, List.all_nil, Bool.and_true]
              show (flatL xs && flatL xs) = true
              rw [s3]; rfl
            rw [hall]
            have : prun P (execOp f.eval o) = some (.value (.bool true)) := by
              unfold execOp
              rw [ho]
              simp only [hx, hy, prunM_bind]
              have hg : prun P (eqGuard .eql t x y (.agg ⟨xs⟩) (.agg ⟨xs⟩)) = some () := by
                unfold eqGuard
                simp only [Bool.not_true, Bool.false_eq_true, if_false, prunM_bind, prun_program, Option.bind_some, s2, Bool.not_false, if_true]
                rfl
              have he : prun P (Go.binOp .eql t (.agg ⟨xs⟩) (.agg ⟨xs⟩)) = some (.bool true) := by
                unfold Go.binOp
                simp only [prunM_bind]
                unfold Op.equal
                rw [selfEq_ok (d := Op.maxDepth) s1 (by decide)]
                rfl
              rw [hg, Option.bind_some, he]
              rfl
            rw [this]
            rfl
          rw [hfl]
      · cases e
    · cases e
def eqRule : OpRule := ⟨eqRun, eq_ok⟩

/-- 'is not', of what equals itself. -/
def neRun (P : Program) (gl : Nat) (f : Fr) (o : Oper) (h : AH) : Option ((Value × AH) × List Prop) :=
  cond (o.op.operands.toList.all (operandOk gl))
    (match o.op with
      | .binOp .neq t x y _ => match f.eval x, f.eval y with
        | .agg ⟨xs⟩, .agg ⟨ys⟩ => cond (selfEq P 8 t (.agg ⟨xs⟩) && !P.eqGuardType P.depth t && flatL xs && flatL ys) (some ((.bool false, h), [xs = ys])) none
        | _, _ => none
      | _ => none) none
theorem ne_ok : ∀ P gl f o h r ps, isCall P f o = none → neRun P gl f o h = some (r, ps) → All ps → evR P gl noF f o h = some r := by
  intro P gl f o h r ps _ e hp
  unfold neRun at e
  cases hc : o.op.operands.toList.all (operandOk gl) with
  | false => rw [hc] at e; cases e
  | true =>
    rw [hc] at e
    simp only [cond_true] at e
    split at e
    · rename_i t x y ty ho
      split at e
      · rename_i xs ys hx hy
        cases hs : (selfEq P 8 t (.agg ⟨xs⟩) && !P.eqGuardType P.depth t && flatL xs && flatL ys) with
        | false => rw [hs] at e; cases e
        | true =>
          rw [hs] at e
          cases e
          simp only [Bool.and_eq_true, Bool.not_eq_true'] at hs
          obtain ⟨⟨⟨s1, s2⟩, s3⟩, s4⟩ := hs
          have h0 := hp _ (List.mem_singleton.2 rfl)
          subst h0
          have hsp : sp0 P gl f o h = none := by
            unfold sp0 checked special
            rw [hc, ho]; rfl
          unfold evR orEv
          rw [hsp]
          simp only []
          unfold aop
          rw [hc]
          simp only [cond_true]
          rw [ho]
          simp only []
          unfold plainA
          have hfl : flatRoute P f.eval o = some (.bool false) := by
            unfold flatRoute
            have hall : (o.op.operands.toList.all fun x => flatV (f.eval x)) = true := by
              rw [ho]
              simp only [Op.operands, hx, hy, List.all_cons, List.all_nil, Bool.and_true]
              show (flatL xs && flatL xs) = true
              rw [s3]; rfl
            rw [hall]
            have : prun P (execOp f.eval o) = some (.value (.bool false)) := by
              unfold execOp
              rw [ho]
              simp only [hx, hy, prunM_bind]
              have hg : prun P (eqGuard .neq t x y (.agg ⟨xs⟩) (.agg ⟨xs⟩)) = some () := by
                unfold eqGuard
                simp only [Bool.not_true, Bool.false_eq_true, if_false, prunM_bind, prun_program, Option.bind_some, s2, Bool.not_false, if_true]
                rfl
              have he : prun P (Go.binOp .neq t (.agg ⟨xs⟩) (.agg ⟨xs⟩)) = some (.bool false) := by
                unfold Go.binOp
                simp only [prunM_bind]
                unfold Op.equal
                rw [selfEq_ok (d := Op.maxDepth) s1 (by decide)]
                rfl
              rw [hg, Option.bind_some, he]
              rfl
            rw [this]
            rfl
          rw [hfl]
      · cases e
    · cases e
def neRule : OpRule := ⟨neRun, ne_ok⟩

/-! ### a row of bytes as a text -/

def isU8 : Value → Bool
  | .int .u8 _ => true
  | _ => false
def pushU8 (s : ByteArray) : Value → ByteArray
  | .int .u8 n => s.push (UInt8.ofNat n.toNat)
  | _ => s
def textOf (l : List Value) : ByteArray := l.foldl pushU8 .empty
theorem isU8_one {v : Value} (h : isU8 v = true) : oneCell v = true := by
  cases v <;> first | rfl | cases h
theorem all_one {l : List Value} (h : l.all isU8 = true) : l.all oneCell = true := by
  rw [List.all_eq_true] at h ⊢
  exact fun v hv => isU8_one (h v hv)
theorem arun_text {h : AH} {F : Value → ByteArray → Sem (ForInStep ByteArray)} (hF : ∀ n s, F (.int .u8 n) s = pure (.yield (s.push (UInt8.ofNat n.toNat)))) : ∀ (l : List Value) (s : ByteArray), l.all isU8 = true →
    arun P (forIn (m := Sem) l s F) h = some (l.foldl pushU8 s, h)
  | [], s, _ => rfl
  | v :: l, s, ha => by
    simp only [List.all_cons, Bool.and_eq_true] at ha
    obtain ⟨h1, h2⟩ := ha
    have ih := arun_text (h := h) hF l
    cases v with
    | int k n =>
      cases k <;> first
        | (cases h1; done)
        | (simp only [List.forIn_cons, hF, arunM_bind, arunM_pure, Option.bind_some]
           exact ih _ h2)
    | _ => cases h1
def strRun (P : Program) (gl : Nat) (f : Fr) (o : Oper) (h : AH) : Option ((Value × AH) × List Prop) :=
  cond (o.op.operands.toList.all (operandOk gl) && !flatAll f o)
    (match o.op with
      | .convert src dst x => match f.eval x, P.underlying src, P.underlying dst with
        | .slice (some a) n _, some (.slice e), some .string => match P.underlying e, a.spot, h.get a.block with
          | some (.int .u8), none, some (.cells c _ _ _ _ _) => some ((.string (textOf (takeL c a.off n)), h.rdBit a.block), [0 < n, a.off + n ≤ c.length, (takeL c a.off n).all isU8 = true])
          | _, _, _ => none
        | _, _, _ => none
      | _ => none) none
theorem str_ok : ∀ P gl f o h r ps, isCall P f o = none → strRun P gl f o h = some (r, ps) → All ps → evR P gl noF f o h = some r := by
  intro P gl f o h r ps _ e hp
  unfold strRun at e
  cases hc : (o.op.operands.toList.all (operandOk gl) && !flatAll f o) with
  | false => rw [hc] at e; cases e
  | true =>
    rw [hc] at e
    simp only [Bool.and_eq_true, Bool.not_eq_true', cond_true] at hc e
    split at e
    · rename_i src dst x ho
      split at e
      · rename_i a n cap el0 hx hs hd
        split at e
        · rename_i cs e0 lo hi ex st hel hsp hg
          cases e
          have b1 := hp _ (List.mem_cons_self ..)
          have b2 := hp _ (List.mem_cons_of_mem _ (List.mem_cons_self ..))
          have b3 := hp _ (List.mem_cons_of_mem _ (List.mem_cons_of_mem _ (List.mem_cons_self ..)))
          have hsp0 : sp0 P gl f o h = none := by
            unfold sp0 checked special
            rw [hc.1, ho]
            simp only [cond_true]
            have h1 : convA P src dst (f.eval x) h = none := by unfold convA; rw [hs, hd, hx]
            have h2 : markA P src dst (f.eval x) h = none := by unfold markA; rw [hs, hd, hx]
            rw [h1, h2]
          unfold evR orEv
          rw [hsp0]
          simp only []
          unfold aop
          rw [hc.1]
          simp only [cond_true]
          rw [ho]
          simp only []
          unfold plainA
          rw [flatRoute_none hc.2]
          have hgd : guardA P f.eval h o.op = some h := by
            rw [ho]
            unfold guardA
            simp only [hs, hd, hx, hel]
          rw [hgd]
          simp only []
          have hcells := arun_cellsFrom (P := P) hsp n 0 #[] h hg (by omega) (all_one b3)
          rw [if_neg (by omega)] at hcells
          have hrun : arun P (execOp f.eval o) h = some (.value (.string (textOf (takeL cs a.off n))), h.rdBit a.block) := by
            unfold execOp
            rw [ho]
            simp only []
            rw [arunM_bind]
            unfold convert
            rw [hx]
            simp only [arunM_bind, arun_underlying hs, arun_underlying hd, Option.bind_some, arun_underlying hel]
            unfold Conv.bytesToString loadCells
            simp only [arunM_bind, hcells, Option.bind_some]
            rw [← Array.forIn_toList, arun_text (h := h.rdBit a.block) (fun _ _ => rfl) _ _ (by simpa using b3)]
            rfl
          rw [hrun]
        · cases e
      · cases e
    · cases e
def strRule : OpRule := ⟨strRun, str_ok⟩
end
end Go.Ev
