/- Operations of texts' builders: pointers without a type, a row seen as a text, a text's bytes. Holds for every program. -/
import Derived.Test.YtnfijnioclcnmaaDoorEvCall4
import Derived.Lib.Builder
import Derived.Lib.MakeNoZero
import Derived.Laws.IdiomStrings
namespace Go.Ev
open Go

def convA (P : Program) (src dst : TypeId) (v : Value) (h : AH) : Option (Value × AH) :=
  match P.underlying src, P.underlying dst, v with
  | some (.pointer t), some .unsafePointer, .pointer (some a) =>
    match a.spot, h.get a.block, P.info? t with
    | none, some (.cells c _ lo hi _ _), some i => cond (Nat.ble lo hi && (Nat.blt a.off c.length && !(Nat.beq i.size 0))) (some (v, h.rdBit a.block)) none
    | _, _, _ => none
  | some .unsafePointer, some (.pointer u), .pointer (some a) =>
    match a.spot, h.get a.block, P.info? u with
    | none, some (.cells c e lo hi true _), some _ => cond (Nat.ble lo hi && liesAt P P.depth e (c.length / P.cellsOf e) a.off u 1) (some (v, h.rdBit a.block)) none
    | _, _, _ => none
  | some .string, some (.slice e), .string s =>
    match P.underlying e with
    | some (.int .u8) => cond (Nat.beq (P.cellsOf e) 1 && small h.n) (some (.slice (some ⟨h.n, 0, none⟩) s.size s.size, h.push (.cells (s.data.toList.map fun b => .int .u8 b.toNat) e 0 0 false true))) none
    | _ => none
  | _, _, _ => none
/-- A literal's bytes: the row is marked. -/
def markA (P : Program) (src dst : TypeId) (v : Value) (h : AH) : Option (Value × AH) :=
  match P.underlying src, P.underlying dst, v with
  | some (.slice _), some (.slice e), .slice (some a) _ _ =>
    match P.underlying e, h.get a.block with
    | some (.int .u8), some (.cells c e0 lo hi ex st) => cond (Nat.ble lo hi && ((src == dst) && (st || Nat.ble hi lo) && small a.block)) (some (v, h.put a.block (.cells c e0 0 0 ex true))) none
    | _, _ => none
  | _, _, _ => none
def noEscapeA (P : Program) (g : FuncId) (args : List Value) : Option Value :=
  match P.funcs[g]?, args with
  | some fn, [x] => cond (fn.body.isNone && (fn.name == "internal/abi.NoEscape") && (Extern.findNext fn).isNone) (some x) none
  | _, _ => none
/-- A row whose bytes nobody knows. -/
def noZeroA (P : Program) (g : FuncId) (args : List Value) (h : AH) : Option (Value × AH) :=
  match P.funcs[g]?, args with
  | some fn, [.int .i64 (.ofNat n)] => match fn.resultTypes.toList with
    | [t] => match P.underlying t with
      | some (.slice e) => cond (fn.body.isNone && (fn.name == "internal/bytealg.MakeNoZero") && (Extern.findNext fn).isNone && Nat.ble n 16777216 && Nat.beq (P.cellsOf e) 1 && small h.n)
          (some (.slice (some ⟨h.n, 0, none⟩) n n, h.push (.cells (List.replicate n (.tuple #[])) e 0 0 false false))) none
      | _ => none
    | _ => none
  | _, _ => none
def sliceDataA (x : Value) : Option Value :=
  match x with
  | .slice (some a) _ c => cond (Nat.beq c 0) none (some (.pointer (some a)))
  | _ => none
def unsafeStringA (P : Program) (pt : TypeId) (x y : Value) (h : AH) : Option (Value × AH) :=
  match x, y, P.underlying pt with
  | .pointer (some a), .int _ (.ofNat m), some (.pointer u) =>
    match h.get a.block, a.spot with
    | some (.cells c e lo hi ex false), none =>
      cond (Nat.ble lo hi && Nat.blt 0 m && Nat.ble m 1099511627776 && Nat.beq (P.cellsOf e) 1 && sameLayout P P.depth e u && small a.block && Nat.ble (a.off + m) c.length)
        (match arun P (loadBytes a .empty m) h with
          | some (s, h1) => some (.string s, h1.put a.block (.cells c e (cond (Nat.blt lo hi) (min lo a.off) a.off) (cond (Nat.blt lo hi) (max hi (a.off + m)) (a.off + m)) ex false))
          | none => none) none
    | _, _ => none
  | _, _, _ => none
def special (P : Program) : OpEv := fun f o h =>
  match o.op with
  | .convert src dst x => match convA P src dst (f.eval x) h with
    | some r => some r
    | none => markA P src dst (f.eval x) h
  | .call c => match c.callee, c.args.toList with
    | .builtin .unsafeSliceData, [x] => match sliceDataA (f.eval x) with
      | some v => some (v, h)
      | none => none
    | .builtin .unsafeString, [x, y] => match c.argTypes[0]? with
      | some pt => unsafeStringA P pt (f.eval x) (f.eval y) h
      | none => none
    | .value z, l => match f.eval z with
      | .func (.func g) ⟨[]⟩ ⟨[]⟩ => match noEscapeA P g (l.map f.eval) with
        | some v => some (v, h)
        | none => noZeroA P g (l.map f.eval) h
      | _ => none
    | _, _ => none
  | _ => none
def checked (gl : Nat) (ev : OpEv) : OpEv := fun f o h => cond (o.op.operands.toList.all (operandOk gl)) (ev f o h) none

section
variable {P : Program} {gl : Nat}
theorem checked_sound {ev : OpEv} (he : ∀ f o h v h', ev f o h = some (v, h') → WF h → OpAt P gl f o h v h') : OpSound P gl (checked gl ev) := by
  intro f o h v h' e wf
  unfold checked at e
  cases hall : o.op.operands.toList.all (operandOk gl) with
  | false => rw [hall] at e; cases e
  | true =>
    rw [hall] at e
    have hat := he f o h v h' e wf
    refine ⟨hat.1, fun κ G a w K' Q hg hrel hag hfs ht hk => hat.2 κ G a w K' Q hg hrel hag hfs (fun x hx => ?_) hk⟩
    exact eval_rel hg (fun t hxt => ht t (hxt ▸ hx)) (List.all_eq_true.1 hall x (by simpa using hx))

theorem opAt_read {f : Fr} {o : Oper} {h h0 : AH} {v : Value} (hm : Marked h h0) (wf : WF h)
    (hrun : ∀ (κ : K) (G : Nat → Option AObj) (a : Act) (w : World), Rel P κ G w → Agree h h0 G → (∀ x ∈ o.op.operands, VR κ (f.eval x) (a.eval x)) → ∃ v', VR κ v v' ∧ OpGives P o a w v' w) : OpAt P gl f o h v h0 := by
  refine ⟨⟨hm.ext, hm.wf wf⟩, fun κ G a w K' Q hg hrel hag hfs hρ hk => ?_⟩
  obtain ⟨v', hv, hgv⟩ := hrun κ G a w hrel hag hρ
  refine wp_of_gives hgv (hk κ v' w hv (by rw [merge_read wf ⟨hm.1, hm.2.1, hm.2.2.1⟩ hag]; exact hrel) ?_)
  exact ⟨K.le_refl κ, fun _ _ => rfl, fun _ _ e => .inl e, fun _ _ _ => rfl, Same.refl w⟩

/-- Where a pointer into a row points in the world. -/
theorem row_at {κ : K} {G : Nat → Option AObj} {w : World} (hrel : Rel P κ G w) {a a' : Addr} (ha : AddrR κ a a') {c : List Value} {e : TypeId} {lo hi : Nat} {ex st : Bool} (hlh : lo ≤ hi) (hG : G a.block = some (.cells c e lo hi ex st)) :
    ∃ b c' fz, κ a.block = some b ∧ a' = ⟨b.blk, b.sh + a.off, none⟩ ∧ b.ex = ex ∧ w.heap[a'.block]? = some (.cells c' e fz) ∧ c'.size = b.tot ∧ b.sh + c.length ≤ b.tot ∧ (ex = true → b.sh = 0 ∧ b.tot = c.length) ∧ (ex = false → b.sz = P.cellsOf e) ∧ w.shape? a'.block = some (e, b.tot) := by
  obtain ⟨b, hb, ho1, ho2, ho3, c', fz, ⟨e', hc, het⟩, hsz, _⟩ := hrel.at_ _ _ hG
  rw [het hlh] at hc
  obtain ⟨_, b', hb', rfl⟩ := ha
  obtain rfl : b' = b := Option.some.inj (hb'.symm.trans hb)
  refine ⟨b', c', fz, hb, rfl, ho1, hc, hsz, ho3, fun h => ?_, fun h => ?_, by simp [World.shape?, hc, hsz]⟩
  · subst h; simpa using ho2
  · subst h; simpa using ho2

theorem noEscape_find {fn : Func} (h : fn.name = "internal/abi.NoEscape") : Extern.find fn = some Extern.AbiNoEscape.same := by
  unfold Extern.find
  rw [h]
  rfl

theorem fresh_bytes {κ : K} {G : Nat → Option AObj} {w : World} (hrel : Rel P κ G w) {j : Nat} (hG : G j = none) (hκ : κ j = none) {e : TypeId} (l : List Value) (hl : flatL l = true) (rest : Array Value) (hsz : P.cellsOf e = 1) :
    Rel P (fun i => if i = j then some ⟨w.heap.size, 0, l.length + rest.size, false, 1⟩ else κ i) (fun i => if i = j then some (.cells l e 0 0 false true) else G i)
      (w.drew.alloc (.cells (l.toArray ++ rest) e (l.length + rest.size, l.length + rest.size + 1))) := by
  refine (rel_drew hrel).alloc hG hκ rfl ⟨rfl, by simpa using hsz.symm, by simp, l.toArray ++ rest, _, ⟨_, ?_, fun _ => rfl⟩, ?_, fun i v hv => ?_, fun _ => .inr (.inl ⟨rfl, rfl⟩)⟩
  · show (w.heap.push _)[w.heap.size]? = _
    simp
  · simp
  · have hlt : i < l.length := by
      rcases Nat.lt_or_ge i l.length with q | q
      · exact q
      · rw [List.getElem?_eq_none q] at hv; cases hv
    refine ⟨v, ?_, fun _ => ?_⟩
    · simp only [Nat.zero_add]
      rw [Array.getElem?_append_left (by simpa using hlt)]
      simpa using hv
    · refine VR.flat v ?_
      have : ∀ (l : List Value), flatL l = true → ∀ v ∈ l, flatV v = true := by
        intro l
        induction l with
        | nil => intro _ v hv; simp at hv
        | cons x l ih =>
          intro h v hv
          simp only [flatL, Bool.and_eq_true] at h
          rcases List.mem_cons.1 hv with rfl | hv
          · exact h.1
          · exact ih h.2 v hv
      exact this l hl v (List.mem_of_getElem? hv)

theorem convA_sound {f : Fr} {o : Oper} {src dst : TypeId} {x : Operand} (ho : o.op = .convert src dst x) {h : AH} {v : Value} {h' : AH} (e : convA P src dst (f.eval x) h = some (v, h')) (wf : WF h) : OpAt P gl f o h v h' := by
  have hx : ∀ {κ : K} {a : Act}, (∀ x ∈ o.op.operands, VR κ (f.eval x) (a.eval x)) → VR κ (f.eval x) (a.eval x) := fun hρ => hρ x (by rw [ho]; simp [Op.operands])
  have give : ∀ {a : Act} {w w' : World} {v' : Value}, (convert src dst (a.eval x)).run P w = .ok v' w' → OpGives P o a w v' w' := by
    intro a w w' v' hr
    left
    simp [execOp, ho, hr]
  unfold convA at e
  split at e
  · rename_i t a hs hd hv
    split at e
    · rename_i c e0 lo hi ex st i hsp hg hinf
      cases hq : (Nat.ble lo hi && (Nat.blt a.off c.length && !(Nat.beq i.size 0))) with
      | false => rw [hq] at e; cases e
      | true =>
        rw [hq] at e
        cases e
        simp only [Bool.and_eq_true, Bool.not_eq_true', beq_eq, decide_eq_false_iff_not, Nat.ble_eq] at hq
        obtain ⟨hlh, hq⟩ := hq
        have hlt := blt_lt hq.1
        refine opAt_read (Marked.rdBit h _) wf fun κ G ac w hrel hag hρ => ?_
        have hvr := hx hρ
        rw [hv] at hvr
        generalize hv' : ac.eval x = v' at hvr
        cases hvr with
        | ptr ha =>
          rename_i a'
          have hGa := (hag a.block (wf.dom _ _ hg) (by simp [AH.touched, rd_rdBit])).trans hg
          obtain ⟨b, c', fz, h1, h2, h3, h4, h5, h6, h7, h8, h9⟩ := row_at hrel ha hlh hGa
          refine ⟨.pointer (some a'), by rw [hv]; exact .ptr ha, give ?_⟩
          rw [hv']
          refine Lib.run_to_unsafe w a' hs hd hinf hq.2 h9 ?_
          rw [h2]
          show b.sh + a.off < b.tot
          omega
    · cases e
  · rename_i u a hs hd hv
    split at e
    · rename_i c e0 lo hi st i hsp hg hinf
      cases hq : (Nat.ble lo hi && liesAt P P.depth e0 (c.length / P.cellsOf e0) a.off u 1) with
      | false => rw [hq] at e; cases e
      | true =>
        rw [hq] at e
        cases e
        simp only [Bool.and_eq_true, Nat.ble_eq] at hq
        obtain ⟨hlh, hq⟩ := hq
        refine opAt_read (Marked.rdBit h _) wf fun κ G ac w hrel hag hρ => ?_
        have hvr := hx hρ
        rw [hv] at hvr
        generalize hv' : ac.eval x = v' at hvr
        cases hvr with
        | ptr ha =>
          rename_i a'
          have hGa := (hag a.block (wf.dom _ _ hg) (by simp [AH.touched, rd_rdBit])).trans hg
          obtain ⟨b, c', fz, h1, h2, h3, h4, h5, h6, h7, h8, h9⟩ := row_at hrel ha hlh hGa
          obtain ⟨h10, h11⟩ := h7 rfl
          refine ⟨.pointer (some a'), by rw [hv]; exact .ptr ha, give ?_⟩
          rw [hv']
          refine Lib.run_from_unsafe w a' hs hd hinf h9 ?_
          rw [h2, h11, h10, Nat.zero_add]
          exact hq
    · cases e
  · rename_i el s hs hd hv
    split at e
    · rename_i hel
      cases hq : (Nat.beq (P.cellsOf el) 1 && small h.n) with
      | false => rw [hq] at e; cases e
      | true =>
        rw [hq] at e
        cases e
        simp only [Bool.and_eq_true, beq_eq, decide_eq_true_eq] at hq
        obtain ⟨hc1, hsm⟩ := hq
        refine ⟨⟨ext_push wf hsm _, wf_push wf hsm _⟩, fun κ G ac w K' Q hg hrel hag hfs hρ hk => ?_⟩
        have hvr := hx hρ
        rw [hv] at hvr
        generalize hv' : ac.eval x = v' at hvr
        cases hvr with
        | string =>
          have hnone := hfs h.n (Nat.le_refl _) (by show h.n < h.n + 1; omega)
          have hrun := run_bytes_of_string (P := P) w src dst el s hs hd hel
          have hge : s.size ≤ grownCap w s.size 0 el := by simp [grownCap, Question.cut]
          have hlen : (s.data.toList.map fun b => Value.int .u8 b.toNat).length = s.size := by rw [List.length_map, Array.length_toList]; rfl
          have hrow : bytesRow s (grownCap w s.size 0 el) = (s.data.toList.map fun b => Value.int .u8 b.toNat).toArray ++ Array.replicate (grownCap w s.size 0 el - s.size) (.int .u8 0) := by
            show s.data.map _ ++ _ = _ ++ _
            rw [← Array.toList_map, Array.toArray_toList]
          have hrs : (bytesRow s (grownCap w s.size 0 el)).size = (s.data.toList.map fun b => Value.int .u8 b.toNat).length + (Array.replicate (grownCap w s.size 0 el - s.size) (Value.int .u8 0)).size := by
            rw [hrow]; simp
          have hfl : flatL (s.data.toList.map fun b => Value.int .u8 b.toNat) = true := by
            have : ∀ l : List UInt8, flatL (l.map fun b => Value.int .u8 b.toNat) = true := by
              intro l
              induction l with
              | nil => rfl
              | cons x l ih => simp [flatL, flatV, ih]
            exact this _
          have hR := fresh_bytes (P := P) hrel hnone.1 hnone.2 (e := el) _ hfl (Array.replicate (grownCap w s.size 0 el - s.size) (.int .u8 0)) hc1
          rw [← hrow, ← hrs] at hR
          refine wp_of_gives (give (by rw [hv']; exact hrun)) (hk (fun i => if i = h.n then some ⟨w.heap.size, 0, (bytesRow s (grownCap w s.size 0 el)).size, false, 1⟩ else κ i) _ _ (.slice ⟨rfl, rfl, _, if_pos rfl, rfl, .inr ⟨rfl, ?_, Nat.le_refl _, hge, .inl rfl⟩⟩) ?_ ?_)
          · simp only [hrs, hlen, Array.size_replicate, Nat.zero_add, Nat.mul_one]
            omega
          · rw [merge_push wf (ext_push wf hsm _) hag hsm]
            exact hR
          · refine ⟨fun q y hy => ?_, fun q hq => if_neg ?_, fun q y hy => ?_, fun k hk _ => heap_push_old (w := w) hk, ⟨rfl, rfl, rfl, by rw [World.size_alloc, World.size_drew]; exact Nat.le_succ _⟩⟩
            · by_cases hqn : q = h.n
              · subst hqn; rw [hnone.2] at hy; cases hy
              · simp only [hqn, if_false]; exact hy
            · intro hqn; exact hq ⟨by omega, by show q < h.n + 1; omega⟩
            · by_cases hqn : q = h.n
              · simp only [hqn, if_true, Option.some.injEq] at hy; subst hy; exact .inr (.inl (Nat.le_refl _))
              · simp only [hqn, if_false] at hy; exact .inl hy
    · cases e
  · cases e

theorem noEscapeA_sound {f : Fr} {o : Oper} {c : Call} (ho : o.op = .call c) {z : Operand} (hc : c.callee = .value z) {g : FuncId} (hz : f.eval z = .func (.func g) ⟨[]⟩ ⟨[]⟩) {h : AH} {v : Value}
    (e : noEscapeA P g (c.args.toList.map f.eval) = some v) (wf : WF h) : OpAt P gl f o h v h := by
  unfold noEscapeA at e
  split at e
  · rename_i fn x hfn hargs
    cases hq : (fn.body.isNone && (fn.name == "internal/abi.NoEscape") && (Extern.findNext fn).isNone) with
    | false => rw [hq] at e; cases e
    | true =>
      rw [hq] at e
      cases e
      simp only [Bool.and_eq_true, beq_iff_eq, Option.isNone_iff_eq_none] at hq
      obtain ⟨⟨hb, hn⟩, hnx⟩ := hq
      refine opAt_read (Marked.refl h) wf fun κ G a w hrel hag hρ => ?_
      have hz' : VR κ (f.eval z) (a.eval z) := hρ z (by rw [ho]; simp [Op.operands, Call.operands, hc])
      rw [hz] at hz'
      obtain ⟨args, hl⟩ : ∃ args : List Operand, c.args = ⟨args⟩ := ⟨c.args.toList, rfl⟩
      rw [hl] at hargs
      match args, hargs, hl with
      | [y], hargs, hl =>
        simp only [List.map_cons, List.map_nil, List.cons.injEq, and_true] at hargs
        subst hargs
        have hy : VR κ (f.eval y) (a.eval y) := hρ y (by rw [ho]; simp [Op.operands, Call.operands, hl])
        refine ⟨a.eval y, hy, .inl ?_⟩
        generalize hzz : a.eval z = z' at hz'
        cases hz' with
        | func _ h1 h2 =>
          cases h1; cases h2
          have hne : ¬ fn.name = "runtime.NumGoroutine" := by rw [hn]; decide
          have hsame : ∀ x : Value, Extern.AbiNoEscape.same #[x] = pure x := fun x => rfl
          have hcall : ∀ x : Value, (callFunc g #[x]).run P w = .ok (.value x) w := fun x => by
            simp [callFunc, hfn, hne, hb, hnx, noEscape_find hn, hsame]
          simp [execOp, ho, resolve, hc, hl, hzz, Deferred.ofValue, invoke, hcall]
  · cases e

theorem noZero_find {fn : Func} (h : fn.name = "internal/bytealg.MakeNoZero") : Extern.find fn = some (Extern.BytealgMakeNoZero.makeNoZero fn.params fn.resultTypes) := by
  unfold Extern.find
  rw [h]
  rfl
theorem noZeroA_sound {f : Fr} {o : Oper} {c : Call} (ho : o.op = .call c) {z : Operand} (hc : c.callee = .value z) {g : FuncId} (hz : f.eval z = .func (.func g) ⟨[]⟩ ⟨[]⟩) {h : AH} {v : Value} {h' : AH}
    (e : noZeroA P g (c.args.toList.map f.eval) h = some (v, h')) (wf : WF h) : OpAt P gl f o h v h' := by
  unfold noZeroA at e
  split at e
  · rename_i fn n hfn hargs
    split at e
    · rename_i t hrt
      split at e
      · rename_i el hu
        cases hq : (fn.body.isNone && (fn.name == "internal/bytealg.MakeNoZero") && (Extern.findNext fn).isNone && Nat.ble n 16777216 && Nat.beq (P.cellsOf el) 1 && small h.n) with
        | false => rw [hq] at e; cases e
        | true =>
          rw [hq] at e
          cases e
          simp only [Bool.and_eq_true, beq_iff_eq, Option.isNone_iff_eq_none, Nat.ble_eq, beq_eq, decide_eq_true_eq] at hq
          obtain ⟨⟨⟨⟨⟨hb, hn⟩, hnx⟩, hle⟩, hc1⟩, hsm⟩ := hq
          refine ⟨⟨ext_push wf hsm _, wf_push wf hsm _⟩, fun κ G a w K' Q hg hrel hag hfs hρ hk => ?_⟩
          have hz' : VR κ (f.eval z) (a.eval z) := hρ z (by rw [ho]; simp [Op.operands, Call.operands, hc])
          rw [hz] at hz'
          have hrt' : fn.resultTypes = #[t] := by rw [← Array.toList_inj, hrt]
          obtain ⟨args, hl⟩ : ∃ args : List Operand, c.args = ⟨args⟩ := ⟨c.args.toList, rfl⟩
          rw [hl] at hargs
          have hl1 : args.length = 1 := by have := congrArg List.length hargs; simpa using this
          obtain ⟨y, rfl⟩ := List.length_eq_one_iff.1 hl1
          simp only [List.map_cons, List.map_nil, List.cons.injEq, and_true] at hargs
          have hy : VR κ (f.eval y) (a.eval y) := hρ y (by rw [ho]; simp [Op.operands, Call.operands, hl])
          rw [hargs] at hy
          generalize hyy : a.eval y = y' at hy
          generalize hzz : a.eval z = z' at hz'
          cases hy with
          | int =>
            cases hz' with
            | func _ h1 h2 =>
              cases h1; cases h2
              obtain ⟨cs, hrun, hcs⟩ := Lib.run_makeNoZero (P := P) w fn.params t el hu n (by omega)
              have hsz : n ≤ cs.size := hcs.1
              have hne : ¬ fn.name = "runtime.NumGoroutine" := by rw [hn]; decide
              have hcall : (callFunc g #[.int .i64 (Int.ofNat n)]).run P w = .ok (.value (.slice (some ⟨w.heap.size, 0, none⟩) n cs.size)) (w.drew.drew.alloc (.cells cs el)) := by
                have hrun' : (Extern.BytealgMakeNoZero.makeNoZero fn.params #[t] #[.int .i64 (Int.ofNat n)]).run P w = .ok (.slice (some ⟨w.heap.size, 0, none⟩) n cs.size) (w.drew.drew.alloc (.cells cs el)) := hrun
                simp only [Int.ofNat_eq_natCast] at hrun'
                simp [callFunc, hfn, hne, hb, hnx, noZero_find hn, hrt', hrun']
              have hnone := hfs h.n (Nat.le_refl _) (by show h.n < h.n + 1; omega)
              have hR : Rel P (fun i => if i = h.n then some ⟨w.heap.size, 0, cs.size, false, 1⟩ else κ i) (fun i => if i = h.n then some (.cells (List.replicate n (.tuple #[])) el 0 0 false false) else G i) (w.drew.drew.alloc (.cells cs el)) := by
                refine (rel_drew (rel_drew hrel)).alloc hnone.1 hnone.2 rfl ⟨rfl, by simpa using hc1.symm, by simpa using hsz, cs, (0, 0), ⟨_, ?_, fun _ => rfl⟩, rfl, fun i v hv => ?_, fun _ => .inl rfl⟩
                · show (w.heap.push _)[w.heap.size]? = _
                  simp
                · have hlt : i < n := by
                    rcases Nat.lt_or_ge i n with q | q
                    · exact q
                    · rw [List.getElem?_eq_none (by simpa using q)] at hv; cases hv
                  refine ⟨cs[i]'(by omega), by simp only [Nat.zero_add]; exact Array.getElem?_eq_getElem (by omega), fun hone => ?_⟩
                  rw [List.getElem?_replicate, if_pos hlt] at hv
                  cases hv
                  cases hone
              refine wp_of_gives (v' := .slice (some ⟨w.heap.size, 0, none⟩) n cs.size) (w' := w.drew.drew.alloc (.cells cs el)) (.inl ?_)
                (hk (fun i => if i = h.n then some ⟨w.heap.size, 0, cs.size, false, 1⟩ else κ i) _ _ (.slice ⟨rfl, rfl, _, if_pos rfl, rfl, .inr ⟨rfl, by simp, Nat.le_refl _, hsz, .inl rfl⟩⟩) ?_ ?_)
              · simp only [Int.ofNat_eq_natCast] at hcall hyy
                simp [execOp, ho, resolve, hc, hl, hzz, hyy, Deferred.ofValue, invoke, hcall]
              · rw [merge_push wf (ext_push wf hsm _) hag hsm]
                exact hR
              · refine ⟨fun q y hy => ?_, fun q hq => if_neg ?_, fun q y hy => ?_, fun k hk _ => heap_push_old (w := w) hk, ⟨rfl, rfl, rfl, by show w.heap.size ≤ (w.heap.push _).size; simp⟩⟩
                · by_cases hqn : q = h.n
                  · subst hqn; rw [hnone.2] at hy; cases hy
                  · simp only [hqn, if_false]; exact hy
                · intro hqn; exact hq ⟨by omega, by show q < h.n + 1; omega⟩
                · by_cases hqn : q = h.n
                  · simp only [hqn, if_true, Option.some.injEq] at hy; subst hy; exact .inr (.inl (Nat.le_refl _))
                  · simp only [hqn, if_false] at hy; exact .inl hy
      · cases e
    · cases e
  · cases e

theorem sliceDataA_sound {f : Fr} {o : Oper} {c : Call} (ho : o.op = .call c) {y : Operand} (hc : c.callee = .builtin .unsafeSliceData) (hl : c.args.toList = [y]) {h : AH} {v : Value}
    (e : sliceDataA (f.eval y) = some v) (wf : WF h) : OpAt P gl f o h v h := by
  unfold sliceDataA at e
  split at e
  · rename_i ad n cp hv
    cases hq : Nat.beq cp 0 with
    | true => rw [hq] at e; cases e
    | false =>
      rw [hq] at e
      cases e
      rw [beq_eq, decide_eq_false_iff_not] at hq
      have hl' : c.args = #[y] := by rw [← Array.toList_inj, hl]
      refine opAt_read (Marked.refl h) wf fun κ G a w hrel hag hρ => ?_
      have hy : VR κ (f.eval y) (a.eval y) := hρ y (by rw [ho]; simp [Op.operands, Call.operands, hl'])
      rw [hv] at hy
      generalize hyy : a.eval y = y' at hy
      cases hy with
      | slice hs =>
        rename_i a' c'
        obtain ⟨h1, h2, b, hb, hblk, hcase⟩ := hs
        have hcp : c' ≠ 0 := by rcases hcase with ⟨_, e⟩ | ⟨_, _, _, e, _⟩ <;> omega
        have hoff : a'.off = b.sh + ad.off := by
          rcases hcase with ⟨e, _⟩ | ⟨_, _, _, _, e | ⟨_, e⟩⟩
          · exact e
          · exact e
          · exact absurd e hq
        refine ⟨.pointer (some a'), .ptr ⟨h1, b, hb, by cases a'; simp only [] at *; subst h2 hblk hoff; rfl⟩, .inl ?_⟩
        have hsd : (Builtin.unsafeSliceData_ c.argTypes o.type #[.slice (some a') n c']).run P w = .ok (.pointer (some a')) w := by
          show (ite (c' ≠ 0) (pure (.pointer (some a')) : Sem Value) _).run P w = _
          rw [if_pos hcp]
          rfl
        simp [execOp, ho, resolve, hc, hl', invoke, builtin, hyy, hsd]
  · cases e

/-! ### a row seen as a text -/

theorem sr_loadBytes {κ : K} : ∀ (n : Nat) (acc : ByteArray) (κ' : K), κ.le κ' → ∀ {a a' : Addr}, AddrR κ' a a' → SR P EqR κ' (loadBytes a acc n) (loadBytes a' acc n)
  | 0, acc, κ', _, _, _, _ => .pure rfl
  | n + 1, acc, κ', hk, a, a', ha => by
    refine .load ha fun v v' hv => ?_
    cases hv with
    | int k b => cases k <;> first
      | exact sr_loadBytes n _ κ' hk (ha.add 1)
      | exact .halt
    | _ => exact .halt
theorem ro_loadBytes : ∀ (n : Nat) (a : Addr) (acc : ByteArray), RO P (loadBytes a acc n)
  | 0, _, _ => ro_pure _
  | n + 1, a, acc => ro_bind (ro_load a) fun v => by
    split
    · exact ro_loadBytes n _ _
    · exact ro_halt _
theorem lo_loadBytes : ∀ (n : Nat) (a : Addr) (acc : ByteArray), LO P (loadBytes a acc n)
  | 0, _, _ => lo_pure _
  | n + 1, a, acc => lo_bind (lo_load a) fun v => by
    split
    · exact lo_loadBytes n _ _
    · exact lo_halt _
theorem liesAt_row {e u : TypeId} {count off n : Nat} (h1 : P.cellsOf e = 1) (hs : sameLayout P P.depth e u = true) (hfit : off + n ≤ count) : liesAt P P.depth e count off u n = true := by
  have hd : ∃ d, P.depth = d + 1 := ⟨2 * (P.types.size + Made.depth) + 1, rfl⟩
  obtain ⟨d, hd⟩ := hd
  have hrow : rowAt P (sameLayout P P.depth · u) P.depth e count off n = true := by
    generalize hff : (sameLayout P P.depth · u) = ff
    have hfe : ff e = true := by rw [← hff]; exact hs
    rw [hd]
    unfold rowAt
    simp [h1, Nat.mod_one, hfit, hfe]
  have : liesAt P (d + 1) e count off u n = true := by
    unfold liesAt
    rw [hrow]
    rfl
  rw [hd]; exact this
theorem heap_freeze (w : World) (a : Addr) (n : Nat) (k : Nat) (hk : k ≠ a.block) : (w.freeze a n).heap[k]? = w.heap[k]? := by
  unfold World.freeze
  split
  · rfl
  · simp only []
    rw [Array.getElem?_modify]
    simp [Ne.symm hk]
theorem same_freeze (w : World) (a : Addr) (n : Nat) : Same w (w.freeze a n) := by
  unfold World.freeze
  split
  · exact Same.refl w
  · exact ⟨rfl, rfl, rfl, by simp⟩
theorem heap_freeze_same {w : World} {a : Addr} {c : Array Value} {e : TypeId} {f1 f2 : Nat} (h : w.heap[a.block]? = some (.cells c e (f1, f2))) (n : Nat) (hn : n ≠ 0) :
    (w.freeze a n).heap[a.block]? = some (.cells c e (if f1 == f2 then (a.off, a.off + n) else (min f1 a.off, max f2 (a.off + n)))) := by
  unfold World.freeze
  rw [if_neg hn]
  simp only []
  rw [Array.getElem?_modify]
  simp [h]
theorem Rel.freeze {κ : K} {G : Nat → Option AObj} {w : World} (hr : Rel P κ G w) {id : Nat} {b : BI} {c : List Value} {e : TypeId} {lo hi : Nat} {ex : Bool} (hG : G id = some (.cells c e lo hi ex false)) (hb : κ id = some b) {off n : Nat} (hn : n ≠ 0) (hlh : lo ≤ hi) :
    Rel P κ (fun j => if j = id then some (.cells c e (cond (Nat.blt lo hi) (min lo off) off) (cond (Nat.blt lo hi) (max hi (off + n)) (off + n)) ex false) else G j) (w.freeze ⟨b.blk, b.sh + off, none⟩ n) := by
  obtain ⟨b', hb', ho1, ho2, ho3, c', ⟨f1, f2⟩, ⟨e', hc, het⟩, hsz, hcells, hfz0⟩ := hr.at_ id _ hG
  rw [het hlh] at hc
  have hfz := hfz0 hlh
  obtain rfl : b' = b := Option.some.inj (hb'.symm.trans hb)
  have hnew := heap_freeze_same (a := ⟨b'.blk, b'.sh + off, none⟩) hc n hn
  have hsm := (same_freeze w ⟨b'.blk, b'.sh + off, none⟩ n).size
  refine ⟨fun j o hj => ?_, fun j j' o o' x x' hj hj' hx hx' hblk hvw => ?_, fun j x hx => Nat.lt_of_lt_of_le (hr.old j x hx) hsm⟩
  · by_cases hji : j = id
    · subst hji
      simp only [if_true, Option.some.injEq] at hj
      subst hj
      refine ⟨b', hb, ho1, ho2, ho3, c', _, ⟨_, hnew, fun _ => rfl⟩, hsz, hcells, fun _ => .inr (.inr ⟨rfl, ?_, ?_, ?_⟩)⟩
      · cases hl : Nat.blt lo hi with
        | true => have := blt_lt hl; simp only [cond_true]; omega
        | false => simp only [cond_false]; omega
      · rcases hfz with hf | ⟨hf, _⟩ | ⟨_, h1, h2, h3⟩
        · simp only at hf
          subst hf
          simp only [beq_self_eq_true, if_true]
          cases hl : Nat.blt lo hi with
          | true => simp only [cond_true]; omega
          | false => simp only [cond_false]; omega
        · cases hf
        · have hl : Nat.blt lo hi = true := by rw [Nat.blt_eq]; exact h1
          simp only [hl, cond_true]
          split <;> simp only [] <;> omega
      · rcases hfz with hf | ⟨hf, _⟩ | ⟨_, h1, h2, h3⟩
        · simp only at hf
          subst hf
          simp only [beq_self_eq_true, if_true]
          cases hl : Nat.blt lo hi with
          | true => simp only [cond_true]; omega
          | false => simp only [cond_false]; omega
        · cases hf
        · have hl : Nat.blt lo hi = true := by rw [Nat.blt_eq]; exact h1
          simp only [hl, cond_true]
          split <;> simp only [] <;> omega
    · simp only [hji, if_false] at hj
      obtain ⟨x, hx, hin⟩ := hr.at_ j o hj
      refine ⟨x, hx, hin.heap (heap_freeze _ _ _ _ ?_)⟩
      intro heq
      exact hji (hr.one j id _ _ x b' hj hG hx hb heq (by rw [view_typed hlh, Bool.and_false]))
  · have f : ∀ j o, (if j = id then some (AObj.cells c e (cond (Nat.blt lo hi) (min lo off) off) (cond (Nat.blt lo hi) (max hi (off + n)) (off + n)) ex false) else G j) = some o → ∃ o1, G j = some o1 ∧ (o1.view = true → o.view = true) := by
      intro j o h
      by_cases hji : j = id
      · subst hji; exact ⟨_, hG, fun h => by rw [view_typed hlh] at h; cases h⟩
      · rw [if_neg hji] at h; exact ⟨_, h, fun h => h⟩
    obtain ⟨o1, h1, v1⟩ := f j o hj
    obtain ⟨o2, h2, v2⟩ := f j' o' hj'
    exact hr.one j j' o1 o2 x x' h1 h2 hx hx' hblk (view_and hvw v1 v2)

theorem Rel.mark {κ : K} {G : Nat → Option AObj} {w : World} (hr : Rel P κ G w) {id : Nat} {b : BI} {c : List Value} {e : TypeId} {lo hi : Nat} {ex st : Bool} (hG : G id = some (.cells c e lo hi ex st)) (hb : κ id = some b) (hok : st = true ∨ hi ≤ lo) (hlh : lo ≤ hi) :
    Rel P κ (fun j => if j = id then some (.cells c e 0 0 ex true) else G j) (w.freeze ⟨b.blk, b.tot, none⟩ 1) := by
  obtain ⟨b', hb', ho1, ho2, ho3, c', ⟨f1, f2⟩, ⟨e', hc, het⟩, hsz, hcells, hfz0⟩ := hr.at_ id _ hG
  rw [het hlh] at hc
  have hfz := hfz0 hlh
  obtain rfl : b' = b := Option.some.inj (hb'.symm.trans hb)
  have hnew := heap_freeze_same (a := ⟨b'.blk, b'.tot, none⟩) hc 1 (by decide)
  have hsm := (same_freeze w ⟨b'.blk, b'.tot, none⟩ 1).size
  refine ⟨fun j o hj => ?_, fun j j' o o' x x' hj hj' hx hx' hblk hvw => ?_, fun j x hx => Nat.lt_of_lt_of_le (hr.old j x hx) hsm⟩
  · by_cases hji : j = id
    · subst hji
      simp only [if_true, Option.some.injEq] at hj
      subst hj
      refine ⟨b', hb, ho1, ho2, ho3, c', _, ⟨_, hnew, fun _ => rfl⟩, hsz, hcells, fun _ => .inr (.inl ⟨rfl, ?_⟩)⟩
      rcases hfz with hf | ⟨_, hf⟩ | ⟨hst, hlt, _⟩
      · simp only at hf
        subst hf
        simp
      · cases hf
        simp
      · rcases hok with hok | hok
        · rw [hst] at hok; cases hok
        · omega
    · simp only [hji, if_false] at hj
      obtain ⟨x, hx, hin⟩ := hr.at_ j o hj
      refine ⟨x, hx, hin.heap (heap_freeze _ _ _ _ ?_)⟩
      intro heq
      exact hji (hr.one j id _ _ x b' hj hG hx hb heq (by rw [view_typed hlh, Bool.and_false]))
  · have f : ∀ j o, (if j = id then some (AObj.cells c e 0 0 ex true) else G j) = some o → ∃ o1, G j = some o1 ∧ (o1.view = true → o.view = true) := by
      intro j o h
      by_cases hji : j = id
      · subst hji; exact ⟨_, hG, fun h => by rw [view_typed hlh] at h; cases h⟩
      · rw [if_neg hji] at h; exact ⟨_, h, fun h => h⟩
    obtain ⟨o1, h1, v1⟩ := f j o hj
    obtain ⟨o2, h2, v2⟩ := f j' o' hj'
    exact hr.one j j' o1 o2 x x' h1 h2 hx hx' hblk (view_and hvw v1 v2)

theorem markA_sound {f : Fr} {o : Oper} {src dst : TypeId} {x : Operand} (ho : o.op = .convert src dst x) {h : AH} {v : Value} {h' : AH} (e : markA P src dst (f.eval x) h = some (v, h')) (wf : WF h) : OpAt P gl f o h v h' := by
  unfold markA at e
  split at e
  · rename_i e1 el ad n cp hs hd hv
    split at e
    · rename_i c e0 lo hi ex st hel hg
      cases hq : (Nat.ble lo hi && ((src == dst) && (st || Nat.ble hi lo) && small ad.block)) with
      | false => rw [hq] at e; cases e
      | true =>
        rw [hq] at e
        cases e
        simp only [Bool.and_eq_true, Bool.or_eq_true, Nat.ble_eq] at hq
        obtain ⟨hlh, ⟨q1, q2⟩, q3⟩ := hq
        refine ⟨⟨ext_put q3 _, wf_put wf q3 (wf.dom _ _ hg) _⟩, fun κ G a w K' Q hkg hrel hag hfs hρ hk => ?_⟩
        have hvr : VR κ (f.eval x) (a.eval x) := hρ x (by rw [ho]; simp [Op.operands])
        have hvr0 := hvr
        rw [hv] at hvr
        generalize hv' : a.eval x = v' at hvr hvr0
        cases hvr with
        | slice hsl =>
          rename_i a' c'
          have hGa : G ad.block = some (.cells c e0 lo hi ex st) := (hag ad.block (wf.dom _ _ hg) (by simp [AH.touched, wr_put])).trans hg
          obtain ⟨b, hb, ho1, ho2, ho3, cc, fz, ⟨e', hc, het⟩, hsz, _⟩ := hrel.at_ _ _ hGa
          rw [het hlh] at hc
          obtain ⟨h1, h2, b', hb', hblk, _⟩ := hsl
          obtain rfl : b' = b := Option.some.inj (hb'.symm.trans hb)
          have hsh : w.shape? b'.blk = some (e0, b'.tot) := by simp [World.shape?, hc, hsz]
          refine wp_of_gives (v' := .slice (some a') n c') (w' := w.freeze ⟨b'.blk, b'.tot, none⟩ 1) (.inl ?_) (hk κ _ _ hvr0 ?_ ?_)
          · have : (convert src dst (.slice (some a') n c')).run P w = .ok (.slice (some a') n c') (w.freeze ⟨b'.blk, b'.tot, none⟩ 1) := by
              simp [convert, run_underlying hs, run_underlying hd, run_underlying hel, q1, markStringish, hsh, hblk]
            simp [execOp, ho, hv', this]
          · have e1 := merge_put (G := G) wf (ext_put (h := h) q3 (.cells c e0 0 0 ex true)) hag q3 (.cells c e0 0 0 ex true)
            rw [e1]
            exact hrel.mark hGa hb q2 hlh
          · refine ⟨K.le_refl κ, fun _ _ => rfl, fun _ _ e => .inl e, fun q hq hn => heap_freeze _ _ _ _ ?_, same_freeze _ _ _⟩
            intro heq
            have := hn ad.block b' hb (by rw [heq])
            rw [wr_put] at this
            simp at this
    · cases e
  · cases e

theorem unsafeStringA_sound {f : Fr} {o : Oper} {c : Call} (ho : o.op = .call c) {x y : Operand} (hc : c.callee = .builtin .unsafeString) (hl : c.args.toList = [x, y]) {pt : TypeId} (hpt : c.argTypes[0]? = some pt) {h : AH} {v : Value} {h' : AH}
    (e : unsafeStringA P pt (f.eval x) (f.eval y) h = some (v, h')) (wf : WF h) : OpAt P gl f o h v h' := by
  unfold unsafeStringA at e
  split at e
  · rename_i ad k m u hx hy hu
    split at e
    · rename_i cs el lo hi ex hg hsp
      cases hq : (Nat.ble lo hi && Nat.blt 0 m && Nat.ble m 1099511627776 && Nat.beq (P.cellsOf el) 1 && sameLayout P P.depth el u && small ad.block && Nat.ble (ad.off + m) cs.length) with
      | false => rw [hq] at e; cases e
      | true =>
        rw [hq] at e
        simp only [cond_true] at e
        simp only [Bool.and_eq_true, beq_eq, decide_eq_true_eq, Nat.ble_eq] at hq
        obtain ⟨⟨⟨⟨⟨⟨hlh, q1⟩, q2⟩, q3⟩, q4⟩, q5⟩, q6⟩ := hq
        have hm0 : m ≠ 0 := by have := blt_lt q1; omega
        split at e
        · rename_i s h1 hld
          cases e
          have x1 := arun_ext P _ _ _ _ hld wf
          have hlo := lo_loadBytes (P := P) _ _ _ _ _ _ hld
          have hlt1 : ad.block < h1.n := by rw [hlo.2.1]; exact wf.dom _ _ hg
          refine ⟨⟨x1.1.trans (ext_put q5 _), wf_put x1.2 q5 hlt1 _⟩, fun κ G a w K' Q hkg hrel hag hfs hρ hk => ?_⟩
          have hl' : c.args = #[x, y] := by rw [← Array.toList_inj, hl]
          have hvx : VR κ (f.eval x) (a.eval x) := hρ x (by rw [ho]; simp [Op.operands, Call.operands, hl'])
          have hvy : VR κ (f.eval y) (a.eval y) := hρ y (by rw [ho]; simp [Op.operands, Call.operands, hl'])
          rw [hx] at hvx
          rw [hy] at hvy
          generalize hxx : a.eval x = x' at hvx
          generalize hyy : a.eval y = y' at hvy
          cases hvy with
          | int =>
            cases hvx with
            | ptr ha =>
              rename_i a'
              have hag1 : Agree h h1 G := hag.left (ext_put q5 _)
              have hGa : G ad.block = some (.cells cs el lo hi ex false) :=
                (hag ad.block (wf.dom _ _ hg) (by simp [AH.touched, wr_put])).trans hg
              obtain ⟨b, c', fz, r1, r2, r3, r4, r5, r6, r7, r8, r9⟩ := row_at hrel ha hlh hGa
              obtain ⟨s', hrun, hs'⟩ := read_sim (sr_loadBytes (κ := κ) m .empty κ (K.le_refl κ) ha) (lo_loadBytes _ _ _) (ro_loadBytes _ _ _) hld wf hrel hag1
              cases hs'
              have hlies : liesAt P P.depth el (b.tot / P.cellsOf el) a'.off u m = true := by
                refine liesAt_row q3 q4 ?_
                rw [q3, Nat.div_one, r2]
                show b.sh + ad.off + m ≤ b.tot
                omega
              have hmax : ¬ ((m : Int) > IntKind.i64.max) := by
                have : IntKind.i64.max = 9223372036854775807 := by decide
                rw [this]; omega
              have hR := hrel.freeze hGa r1 (off := ad.off) hm0 hlh
              refine wp_of_gives (v' := .string s) (w' := w.freeze a' m) (.inl ?_) (hk κ _ _ (.string s) ?_ ?_)
              · have hvar : (variablesAt a' u m).run P w = .ok true w := by
                  simp [variablesAt, r9, hlies]
                have hmm : ¬ ((m : Int) < 0) := by omega
                have hm0' : ¬ ((m : Int) = 0) := by omega
                have he0 : (elemOf pt).run P w = .ok u w := by simp [elemOf, run_underlying hu]
                have hus : (Builtin.unsafeString_ c.argTypes o.type #[.pointer (some a'), .int k (Int.ofNat m)]).run P w = .ok (.string s) (w.freeze a' m) := by
                  show (asInt (.int k (Int.ofNat m)) >>= _).run P w = _
                  simp [asInt, asIntOf, hpt, hmm, hm0, he0, hvar, hrun]
                  omega
                simp [execOp, ho, resolve, hc, hl', invoke, builtin, hxx, hyy]
                have := hus
                simp at this
                simp [this]
              · have e1 : merge h (h1.put ad.block (.cells cs el (cond (Nat.blt lo hi) (min lo ad.off) ad.off) (cond (Nat.blt lo hi) (max hi (ad.off + m)) (ad.off + m)) ex false)) G =
                    fun j => if j = ad.block then some (.cells cs el (cond (Nat.blt lo hi) (min lo ad.off) ad.off) (cond (Nat.blt lo hi) (max hi (ad.off + m)) (ad.off + m)) ex false) else G j := by
                  have hmr := merge_read wf hlo hag1
                  have := merge_put (G := G) x1.2 (ext_put (h := h1) q5 (.cells cs el (cond (Nat.blt lo hi) (min lo ad.off) ad.off) (cond (Nat.blt lo hi) (max hi (ad.off + m)) (ad.off + m)) ex false))
                    (by have := hag.right x1.1; rwa [hmr] at this) q5 (.cells cs el (cond (Nat.blt lo hi) (min lo ad.off) ad.off) (cond (Nat.blt lo hi) (max hi (ad.off + m)) (ad.off + m)) ex false)
                  rw [← this, ← merge_merge (G := G) x1.1 (ext_put q5 _), hmr]
                rw [e1, r2]
                exact hR
              · refine ⟨K.le_refl κ, fun _ _ => rfl, fun _ _ e => .inl e, fun q hq hn => heap_freeze _ _ _ _ ?_, same_freeze _ _ _⟩
                intro heq
                have := hn ad.block b r1 (by rw [heq, r2])
                rw [wr_put] at this
                simp at this
        · cases e
    · cases e
  · cases e

theorem special_sound : OpSound P gl (checked gl (special P)) := by
  refine checked_sound fun f o h v h' e wf => ?_
  unfold special at e
  split at e
  · rename_i src dst x ho
    split at e
    · rename_i r hr
      cases e
      exact convA_sound ho hr wf
    · exact markA_sound ho e wf
  · rename_i c ho
    split at e
    · rename_i x hc hl
      split at e
      · rename_i v0 hv
        cases e
        exact sliceDataA_sound ho hc hl hv wf
      · cases e
    · rename_i x y hc hl
      split at e
      · rename_i pt hpt
        exact unsafeStringA_sound ho hc hl hpt e wf
      · cases e
    · rename_i z hc
      split at e
      · rename_i g hz
        split at e
        · rename_i v0 hv
          cases e
          exact noEscapeA_sound ho hc hz hv wf
        · exact noZeroA_sound ho hc hz e wf
      · cases e
    · cases e
  · cases e
end
end Go.Ev
