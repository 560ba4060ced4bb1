/- Meter: whatever goes over a link: the pieces of the law's code. -/
import Derived.Test.YthidmnghdoipiaaGreatDoorPrMpA
namespace Go.Proofs.YthidmnghdoipiaaGreatDoor
open Go Go.RowKit Go.Ev
def knownFn : List Value → Option Value
  | [] => some (.bool true)
  | _ => none
theorem known_run : plainOut 0 ((runHR Tryz.prog 0 (plainHints [] []) 100).2 14 [] (bare 0)) = some (.bool true, []) := by kernel_rfl
theorem known_tup (args : List Value) (v : Value) (e : knownFn args = some v) (h : AH) : CTup Tryz.prog 0 14 args h (.ret v) h := by
  unfold knownFn at e
  split at e
  · cases e
    exact plain_tup zerosFlat_here mixed_here (plainHints_ok Sums.Ok.nil) known_run (fun p hp => by cases hp) rfl h
  · cases e
def KM : Sums := [(14, knownFn), (25, ratioFn), (46, ratioFn), (26, meanFn), (45, meansFn)]
theorem KM_ok : Sums.Ok Tryz.prog 0 KM := .cons known_tup (.cons ratio_tup (.cons ratio2_tup (.cons mean_tup (.cons rmeans_tup .nil))))
noncomputable abbrev mpH (ops : OpHints) : Hints := rowHints (P := Tryz.prog) ops [(14, knownFn), (25, ratioFn), (46, ratioFn), (26, meanFn), (45, meansFn)] [] []
theorem mpH_ok (ops : OpHints) : (mpH ops).Ok Tryz.prog 0 := rowHints_ok KM_ok .nil
noncomputable def bodyM : Code := (Tryz.f3.body).getD .skip
noncomputable def preM : Code := match splitSeq 3 bodyM with
  | some (p, _) => p
  | none => .skip
noncomputable def restM : Code := match splitSeq 3 bodyM with
  | some (_, r) => r
  | none => .skip
noncomputable def loopM : Code := match restM with
  | .seq (.seq _ (.block _ (.loop b))) _ => b
  | _ => .skip
noncomputable def initM : Code := match restM with
  | .seq (.seq a _) _ => a
  | _ => .skip
noncomputable def tailM : Code := match restM with
  | .seq _ t => t
  | _ => .skip
theorem splitM : splitSeq 3 bodyM = some (preM, restM) := by kernel_rfl
theorem restM_eq : restM = .seq (.seq initM (.block 0 (.loop loopM))) tailM := by kernel_rfl
theorem f3_at : Tryz.prog.funcs[3]? = some Tryz.f3 := by kernel_rfl
theorem f3_body : Tryz.f3.body = some bodyM := by kernel_rfl
/-- What is counted one way. -/
structure Wy where
  p : Int
  b : Int
  w : Int
  l : Int
  s : Int
  f : Nat
def w0 : Wy := ⟨0, 0, 0, 0, 0, qnan⟩
abbrev mC (t : Int) (A B : Wy) : List Value := [.int .i64 t, .int .i64 A.p, .int .i64 A.b, .int .i64 A.w, .int .i64 A.l, .int .i64 B.p, .int .i64 B.b, .int .i64 B.w, .int .i64 B.l, .int .i64 A.s, .int .i64 B.s, .float .f64 A.f, .float .f64 B.f]
abbrev rC (t : Int) (A B : Wy) : List Value := [.int .i64 t, .int .i64 A.p, .int .i64 A.b, .int .i64 A.w, .int .i64 A.l, .int .i64 A.s, .float .f64 A.f, .int .i64 B.p, .int .i64 B.b, .int .i64 B.w, .int .i64 B.l, .int .i64 B.s, .float .f64 B.f]
abbrev mO (c : List Value) : Option AObj := some (.cells c 52 0 0 true false)
abbrev rO (c : List Value) : Option AObj := some (.cells c 56 0 0 true false)
abbrev viewO (cs : List Value) : Option AObj := some (.cells cs 28 1 0 false false)
abbrev pK (k : Nat) : Value := .pointer (some ⟨k, 0, none⟩)
abbrev pSl (n c : Nat) : Value := .slice (some ⟨0, 0, none⟩) n c
abbrev liveM (n c : Nat) (i : Int) : List (Nat × Value) := [(0, pSl n c), (3, pK 1), (4, pK 2), (5, .int .i64 i)]
abbrev slM : List Nat := [0, 3, 4, 5]
abbrev vsM (n c : Nat) (i : Int) : List Value := [pSl n c, pK 1, pK 2, .int .i64 i]
theorem m_pre (o0 : Option AObj) (v0 : Value) (f : Fr) :
    roundOutH [0, 3, 4] [0, 1, 2] ((runHR Tryz.prog 0 (mpH []) 200).1 3 preM (canonF 78 [(0, v0)] f) (hpOf [o0])) =
    some (.normal, [v0, pK 1, pK 2], 78, (3, 4, 4), [o0, mO (mC 0 w0 w0), rO (rC 0 w0 w0)], []) := by kernel_rfl
theorem m_init (o0 : Option AObj) (v0 : Value) (c d : List Value) (f : Fr) :
    roundOutH slM [0, 1, 2] ((runHR Tryz.prog 0 (mpH []) 200).1 3 initM (canonF 78 [(0, v0), (3, pK 1), (4, pK 2)] f) (hpOf [o0, mO c, rO d])) =
    some (.normal, [v0, pK 1, pK 2, .int .i64 0], 78, (3, 0, 0), [o0, mO c, rO d], []) := by kernel_rfl
noncomputable def testM : Code := match loopM with
  | .seq a _ => a
  | _ => .skip
noncomputable def workM : Code := match loopM with
  | .seq _ (.seq (.block _ x) _) => x
  | _ => .skip
noncomputable def nextM : Code := match loopM with
  | .seq _ (.seq _ y) => y
  | _ => .skip
theorem loopM_eq : loopM = .seq testM (.seq (.block 1 workM) nextM) := by kernel_rfl
noncomputable def actM : Code := match splitSeq 2 workM with
  | some (p, _) => p
  | none => .skip
noncomputable def sameM : Code := match splitSeq 2 workM with
  | some (_, r) => r
  | none => .skip
theorem splitW : splitSeq 2 workM = some (actM, sameM) := by kernel_rfl
theorem m_end (o0 : Option AObj) (n c : Nat) (i : Int) (r d : List Value) (f : Fr) :
    roundOutH slM [0, 1, 2] ((runHR Tryz.prog 0 (mpH [(3, 15, .bool false)]) 200).1 3 testM (canonF 78 (liveM n c i) f) (hpOf [o0, mO r, rO d])) =
    some (.exit 0, vsM n c i, 78, (3, 0, 0), [o0, mO r, rO d], [decide (i < (n : Int)) = false]) := by kernel_rfl
theorem m_go (o0 : Option AObj) (n c : Nat) (i : Int) (r d : List Value) (f : Fr) :
    roundOutH slM [0, 1, 2] ((runHR Tryz.prog 0 (mpH [(3, 15, .bool true)]) 200).1 3 testM (canonF 78 (liveM n c i) f) (hpOf [o0, mO r, rO d])) =
    some (.normal, vsM n c i, 78, (3, 0, 0), [o0, mO r, rO d], [decide (i < (n : Int)) = true]) := by kernel_rfl
theorem m_endN (o0 : Option AObj) (r d : List Value) (f : Fr) :
    roundOutH slM [0, 1, 2] ((runHR Tryz.prog 0 (mpH []) 200).1 3 testM (canonF 78 [(0, .slice none 0 0), (3, pK 1), (4, pK 2), (5, .int .i64 0)] f) (hpOf [o0, mO r, rO d])) =
    some (.exit 0, [.slice none 0 0, pK 1, pK 2, .int .i64 0], 78, (3, 0, 0), [o0, mO r, rO d], []) := by kernel_rfl
theorem m_next (o0 : Option AObj) (n c : Nat) (i : Int) (r d : List Value) (f : Fr) :
    roundOutH slM [0, 1, 2] ((runHR Tryz.prog 0 (mpH [(3, 17, .int (i + 1))]) 200).1 3 nextM (canonF 78 (liveM n c i) f) (hpOf [o0, mO r, rO d])) =
    some (.normal, vsM n c (i + 1), 78, (3, 0, 0), [o0, mO r, rO d], [IntKind.i64.wrap (i + 1) = i + 1]) := by kernel_rfl
theorem m_tail (o0 : Option AObj) (r d : List Value) (f : Fr) :
    roundOutH [2] [0, 1, 2] ((runHR Tryz.prog 0 (mpH []) 200).1 3 tailM (canonF 78 [] f) (hpOf [o0, mO r, rO d])) =
    some (.ret, [.bool true], 78, (3, 0, 0), [o0, mO r, rO d], []) := by kernel_rfl
end Go.Proofs.YthidmnghdoipiaaGreatDoor
