/- Meter: loss and gain lie where they must: what the functions of numbers answer, and the pieces of the law's code. -/
import Derived.Test.YthidmnghdoipiaaDoorChecked
import Derived.WalkKit
import Derived.Lib.Hide
import Derived.Test.YthidmnghdoipiaaDoorKit8
import Derived.Test.YthidmnghdoipiaaDoorKit9
import Derived.Test.YthidmnghdoipiaaDoorKit12
import Derived.Test.YthidmnghdoipiaaDoorKit13
namespace Go.Proofs.YthidmnghdoipiaaDoor
open Go Go.RowKit Go.Ev
theorem zerosFlat_here : zerosFlat Tryd.prog = true := by kernel_rfl
theorem mixed_here : Tryd.prog.follows .mixedOrders = true := by kernel_rfl
def toldFn : List Value → Option Value
  | [.float .f64 a] => some (.float .f64 (toldF a))
  | _ => .none
def toldG (n : Bool) (a : Nat) : Nat := bif n then qnan else a
theorem told_run (a : Nat) (n : Bool) : plainOut 0 ((runHR Tryd.prog 0 (plainHints [(11, 5, .bool n)] []) 30).2 11 [.float .f64 a] (bare 0)) = some (.float .f64 (toldG n a), [nanB a = n]) := by
  cases n <;> kernel_rfl
theorem told_tup (a : Nat) (h : AH) : CTup Tryd.prog 0 11 [.float .f64 a] h (.ret (.float .f64 (toldF a))) h :=
  plain_tup zerosFlat_here mixed_here (plainHints_ok Sums.Ok.nil) (told_run a (nanB a)) (fun p hp => by simp at hp; exact hp) rfl h
theorem told_any (a : Nat) (w : World) : Calls Tryd.prog 11 #[.float .f64 a] w fun e w' => e = .returned (.float .f64 (toldF a)) ∧ Quiet w w' := calls_of_ctup (told_tup a) rfl rfl w
def End1 (w : World) (r : Nat) (e : Ending) (w' : World) : Prop := e = .returned (.float .f64 (toldF r)) ∧ Quiet w w'
set_option maxHeartbeats 400000 in
set_option maxRecDepth 100000 in
theorem ratio_any (a b : Nat) (w : World) : ∃ r, FloatR .quo a b r ∧ Calls Tryd.prog 14 #[.float .f64 a, .float .f64 b] w (End1 w r) := by
  obtain ⟨r, w1, hrun, hw, hr⟩ := run_float_any (P := Tryd.prog) .quo (by simp) 33 a b w
  refine ⟨r, hr, ?_⟩
  have HW := Lib.hid (Quiet.of hw)
  clear hw hr
  go_enter Tryd.func14, Tryd.ntmps14
  go_wp2_with (go_at_call 11; refine (told_any _ _).mono ?_; rintro e w' ⟨rfl, hq⟩; have HQ := Lib.hid hq; clear hq)
  go_ret
  exact ⟨rfl, HW.out.trans HQ.out⟩
/-! ### the same as plain calls -/

def ratF (a b : Nat) : Nat := toldF (valF .quo a b)
def ratioFn : List Value → Option Value
  | [.float .f64 a, .float .f64 b] => some (.float .f64 (ratF a b))
  | _ => .none
theorem ratio_tup (args : List Value) (v : Value) (e : ratioFn args = some v) (h : AH) : CTup Tryd.prog 0 14 args h (.ret v) h := by
  unfold ratioFn at e
  split at e
  · rename_i a b
    cases e
    refine ctup_of_calls rfl rfl (fun w => ?_) h
    obtain ⟨r, hr, hc⟩ := ratio_any a b w
    refine hc.mono fun en w' hen => ⟨?_, hen.2⟩
    rw [hen.1]; unfold ratF; rw [toldF_eq (hr.val (.inl rfl) (.inl rfl))]
  · cases e
def knownFn : List Value → Option Value
  | [] => some (.bool true)
  | _ => none
theorem known_run : plainOut 0 ((runHR Tryd.prog 0 (plainHints [] []) 100).2 10 [] (bare 0)) = some (.bool true, []) := by kernel_rfl
theorem known_tup (args : List Value) (v : Value) (e : knownFn args = some v) (h : AH) : CTup Tryd.prog 0 10 args h (.ret v) h := by
  unfold knownFn at e
  split at e
  · cases e
    exact plain_tup zerosFlat_here mixed_here (plainHints_ok Sums.Ok.nil) known_run (fun p hp => by cases hp) rfl h
  · cases e
def KM : Sums := [(10, knownFn), (14, ratioFn)]
theorem KM_ok : Sums.Ok Tryd.prog 0 KM := .cons known_tup (.cons ratio_tup .nil)
noncomputable abbrev mpH (ops : OpHints) : Hints := rowHints (P := Tryd.prog) ops [(10, knownFn), (14, ratioFn)] [] []
theorem mpH_ok (ops : OpHints) : (mpH ops).Ok Tryd.prog 0 := rowHints_ok KM_ok .nil
noncomputable def bodyM : Code := (Tryd.f3.body).getD .skip
noncomputable def preM : Code := match splitSeq 2 bodyM with
  | some (p, _) => p
  | none => .skip
noncomputable def restM : Code := match splitSeq 2 bodyM with
  | some (_, r) => r
  | none => .skip
noncomputable def loopM : Code := match restM with
  | .seq (.seq _ (.block _ (.loop b))) _ => b
  | _ => .skip
noncomputable def initM : Code := match restM with
  | .seq (.seq a _) _ => a
  | _ => .skip
noncomputable def tailM : Code := match restM with
  | .seq _ t => t
  | _ => .skip
theorem splitM : splitSeq 2 bodyM = some (preM, restM) := by kernel_rfl
theorem restM_eq : restM = .seq (.seq initM (.block 0 (.loop loopM))) tailM := by kernel_rfl
theorem f3_at : Tryd.prog.funcs[3]? = some Tryd.f3 := by kernel_rfl
theorem f3_body : Tryd.f3.body = some bodyM := by kernel_rfl
/-- What is counted one way. -/
structure Wy where
  p : Int
  b : Int
  w : Int
  l : Int
  s : Int
  f : Nat
def w0 : Wy := ⟨0, 0, 0, 0, 0, qnan⟩
abbrev mC (t : Int) (A B : Wy) : List Value := [.int .i64 t, .int .i64 A.p, .int .i64 A.b, .int .i64 A.w, .int .i64 A.l, .int .i64 B.p, .int .i64 B.b, .int .i64 B.w, .int .i64 B.l, .int .i64 A.s, .int .i64 B.s, .float .f64 A.f, .float .f64 B.f]
abbrev mO (c : List Value) : Option AObj := some (.cells c 43 0 0 true false)
abbrev viewO (cs : List Value) : Option AObj := some (.cells cs 26 1 0 false false)
abbrev pK (k : Nat) : Value := .pointer (some ⟨k, 0, none⟩)
abbrev pSl (n c : Nat) : Value := .slice (some ⟨0, 0, none⟩) n c
abbrev liveM (n c : Nat) (q : Bool) (i : Int) : List (Nat × Value) := [(0, pSl n c), (1, .bool q), (5, pK 1), (6, .int .i64 i)]
abbrev slM : List Nat := [0, 1, 5, 6]
abbrev vsM (n c : Nat) (q : Bool) (i : Int) : List Value := [pSl n c, .bool q, pK 1, .int .i64 i]
theorem m_pre (o0 : Option AObj) (v0 : Value) (q : Bool) (f : Fr) :
    roundOutH [0, 1, 5] [0, 1] ((runHR Tryd.prog 0 (mpH []) 200).1 3 preM (canonF 86 [(0, v0), (1, .bool q)] f) (hpOf [o0])) =
    some (.normal, [v0, .bool q, pK 1], 86, (2, 0, 0), [o0, mO (mC 0 w0 w0)], []) := by kernel_rfl
theorem m_init (o0 : Option AObj) (v0 : Value) (q : Bool) (c : List Value) (f : Fr) :
    roundOutH slM [0, 1] ((runHR Tryd.prog 0 (mpH []) 200).1 3 initM (canonF 86 [(0, v0), (1, .bool q), (5, pK 1)] f) (hpOf [o0, mO c])) =
    some (.normal, [v0, .bool q, pK 1, .int .i64 0], 86, (2, 0, 0), [o0, mO c], []) := by kernel_rfl
noncomputable def testM : Code := match loopM with
  | .seq a _ => a
  | _ => .skip
noncomputable def workM : Code := match loopM with
  | .seq _ (.seq (.block _ x) _) => x
  | _ => .skip
noncomputable def nextM : Code := match loopM with
  | .seq _ (.seq _ y) => y
  | _ => .skip
theorem loopM_eq : loopM = .seq testM (.seq (.block 1 workM) nextM) := by kernel_rfl
theorem m_end (o0 : Option AObj) (n c : Nat) (q : Bool) (i : Int) (r : List Value) (f : Fr) :
    roundOutH slM [0, 1] ((runHR Tryd.prog 0 (mpH [(3, 17, .bool false)]) 200).1 3 testM (canonF 86 (liveM n c q i) f) (hpOf [o0, mO r])) =
    some (.exit 0, vsM n c q i, 86, (2, 0, 0), [o0, mO r], [decide (i < (n : Int)) = false]) := by kernel_rfl
theorem m_go (o0 : Option AObj) (n c : Nat) (q : Bool) (i : Int) (r : List Value) (f : Fr) :
    roundOutH slM [0, 1] ((runHR Tryd.prog 0 (mpH [(3, 17, .bool true)]) 200).1 3 testM (canonF 86 (liveM n c q i) f) (hpOf [o0, mO r])) =
    some (.normal, vsM n c q i, 86, (2, 0, 0), [o0, mO r], [decide (i < (n : Int)) = true]) := by kernel_rfl
theorem m_endN (o0 : Option AObj) (q : Bool) (r : List Value) (f : Fr) :
    roundOutH slM [0, 1] ((runHR Tryd.prog 0 (mpH []) 200).1 3 testM (canonF 86 [(0, .slice none 0 0), (1, .bool q), (5, pK 1), (6, .int .i64 0)] f) (hpOf [o0, mO r])) =
    some (.exit 0, [.slice none 0 0, .bool q, pK 1, .int .i64 0], 86, (2, 0, 0), [o0, mO r], []) := by kernel_rfl
theorem m_next (o0 : Option AObj) (n c : Nat) (q : Bool) (i : Int) (r : List Value) (f : Fr) :
    roundOutH slM [0, 1] ((runHR Tryd.prog 0 (mpH [(3, 19, .int (i + 1))]) 200).1 3 nextM (canonF 86 (liveM n c q i) f) (hpOf [o0, mO r])) =
    some (.normal, vsM n c q (i + 1), 86, (2, 0, 0), [o0, mO r], [IntKind.i64.wrap (i + 1) = i + 1]) := by kernel_rfl
end Go.Proofs.YthidmnghdoipiaaDoor
