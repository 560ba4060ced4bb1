/- Chat: a text is found as soon as it has come: the other ways. -/
import Derived.Test.YtgniedijgbaheaaDoorPrChB
namespace Go.Proofs.YtgniedijgbaheaaDoor
open Go Go.RowKit Go.Ev
abbrev liveV (s : ByteArray) (v1 : Value) (x : Int) (met : Bool) (g : ByteArray) (i : Int) : List (Nat × Value) := [(0, .string s), (1, v1), (2, .int .i64 x), (8, rP), (10, .bool met), (11, .string g), (12, .int .i64 i)]
abbrev vsV (s : ByteArray) (v1 : Value) (x : Int) (met : Bool) (g : ByteArray) (i : Int) : List Value := [.string s, v1, .int .i64 x, rP, .bool met, .string g, .int .i64 i]
abbrev preHints (w : Bool) : OpHints := [(43, 20, .bool true), (3, 37, .bool false), (3, 41, .bool false), (9, 16, .bool false), (27, 10, .bool false), (27, 13, .bool false), (45, 22, .bool w), (3, 52, .bool (!w))]
abbrev boxL (s : ByteArray) : Option AObj := some (.cells (lRow s) 25 0 0 true false)
abbrev box0 : Option AObj := some (.cells [.int .i64 0, .string ByteArray.empty, .int .i64 0, .bool false, nilS] 25 0 0 true false)
def preObj (o0 : Option AObj) (s : ByteArray) (rc : List Value) : List (Option AObj) := [o0, boxL s, boxL s, boxL s, boxL s, runO rc, boxL s, box0, lO s, boxL s, boxL s]
def isEmpty (s : ByteArray) : Bool := s.toList == ByteArray.empty.toList
def preP (s : ByteArray) (x : Int) (w : Bool) : List Prop :=
  [decide ((s.size : Int) ≤ 1024) = true, decide (x < 0) = false, decide (x > 549755813888) = false, decide (x < 0) = false, decide (x < 0) = false, decide (x > 1099511627776) = false, (!isEmpty s) = w, isEmpty s = !w]
def atEight (l : List Value) : List Value := upd l 0 (.slice (some ⟨8, 0, none⟩) 1 1)
theorem c_preT (o0 : Option AObj) (v1 : Value) (s : ByteArray) (x : Int) (f : Fr) :
    roundOutH [0, 1, 2, 8, 10, 11] [0, 1, 2, 3, 4, 5, 6, 7, 8, 9, 10] ((runHR Tryd.prog 0 (chH (preHints true)) 200).1 3 preC (canonF 143 [(0, .string s), (1, v1), (2, .int .i64 x)] f) (hpOf [o0])) =
    some (.normal, [.string s, v1, .int .i64 x, .pointer (some ⟨5, 0, none⟩), .bool false, .string ByteArray.empty], 143, (11, 2046, 876), preObj o0 s (atEight (runC 0 true s x x 0 nilS 0 nilS)), preP s x true) := by kernel_rfl
theorem c_preF (o0 : Option AObj) (v1 : Value) (s : ByteArray) (x : Int) (f : Fr) :
    roundOutH [0, 1, 2, 8, 10, 11] [0, 1, 2, 3, 4, 5, 6, 7, 8, 9, 10] ((runHR Tryd.prog 0 (chH (preHints false)) 200).1 3 preC (canonF 143 [(0, .string s), (1, v1), (2, .int .i64 x)] f) (hpOf [o0])) =
    some (.normal, [.string s, v1, .int .i64 x, .pointer (some ⟨5, 0, none⟩), .bool true, .string ByteArray.empty], 143, (11, 2046, 876), preObj o0 s (atEight (runC 1 false s x x 1 nilS 0 nilS)), preP s x false) := by kernel_rfl
theorem c_init (o0 : Option AObj) (v1 : Value) (rc : List Value) (s g : ByteArray) (x : Int) (m : Bool) (f : Fr) :
    roundOutH slC [0, 1, 2] ((runHR Tryd.prog 0 (chH []) 200).1 3 initC (canonF 143 [(0, .string s), (1, v1), (2, .int .i64 x), (8, rP), (10, .bool m), (11, .string g)] f) (hpOf [o0, runO rc, lO s])) =
    some (.normal, vsV s v1 x m g 0, 143, (3, 0, 0), [o0, runO rc, lO s], []) := by kernel_rfl
theorem c_end1 (o0 : Option AObj) (n c : Nat) (rc : List Value) (s g : ByteArray) (x i : Int) (m : Bool) (f : Fr) :
    roundOutH slC [0, 1, 2] ((runHR Tryd.prog 0 (chH [(3, 56, .bool false)]) 200).1 3 loopC (canonF 143 (liveV s (pSl n c) x m g i) f) (hpOf [o0, runO rc, lO s])) =
    some (.exit 0, vsV s (pSl n c) x m g i, 143, (3, 0, 0), [o0, runO rc, lO s], [decide (i < (n : Int)) = false]) := by kernel_rfl
theorem c_end2 (o0 : Option AObj) (n c : Nat) (rc : List Value) (s g : ByteArray) (x i : Int) (m : Bool) (f : Fr) :
    roundOutH slC [0, 1, 2] ((runHR Tryd.prog 0 (chH [(3, 56, .bool true), (3, 59, .bool false)]) 200).1 3 loopC (canonF 143 (liveV s (pSl n c) x m g i) f) (hpOf [o0, runO rc, lO s])) =
    some (.exit 0, vsV s (pSl n c) x m g i, 143, (3, 0, 0), [o0, runO rc, lO s], [decide (i < (n : Int)) = true, decide (i < 300) = false]) := by kernel_rfl

theorem c_endN (o0 : Option AObj) (rc : List Value) (s g : ByteArray) (x : Int) (m : Bool) (f : Fr) :
    roundOutH slC [0, 1, 2] ((runHR Tryd.prog 0 (chH []) 200).1 3 loopC (canonF 143 (liveV s nilS x m g 0) f) (hpOf [o0, runO rc, lO s])) =
    some (.exit 0, vsV s nilS x m g 0, 143, (3, 0, 0), [o0, runO rc, lO s], []) := by kernel_rfl

/-! ### behind the loop -/

noncomputable def tail1 : Code := match splitSeq 4 tailC with
  | some (p, _) => p
  | none => .skip
noncomputable def tail2 : Code := match splitSeq 4 tailC with
  | some (_, r) => r
  | none => .skip
theorem splitT : splitSeq 4 tailC = some (tail1, tail2) := by kernel_rfl
theorem c_met (o0 : Option AObj) (v1 : Value) (s g : ByteArray) (x i at_ fr : Int) (cm lf : Value) (f : Fr) :
    roundOutH [6] [0, 1, 2] ((runHR Tryd.prog 0 (chH []) 200).1 3 tailC (canonF 143 (liveV s v1 x true g i) f) (hpOf [o0, runO (runC at_ false s x x 1 cm fr lf), lO s])) =
    some (.ret, [.bool true], 143, (3, 2, 0), [o0, runO (runC at_ false s x x 1 cm fr lf), lO s], []) := by kernel_rfl
theorem c_tail1 (o0 : Option AObj) (v1 : Value) (s g : ByteArray) (x i fr : Int) (cm lf : Value) (f : Fr) :
    roundOutH [2, 8] [0, 1, 2] ((runHR Tryd.prog 0 (chH [(3, 120, .int (x + 44999)), (27, 10, .bool false), (27, 13, .bool false), (12, 30, .int 44999)]) 200).1 3 tail1 (canonF 143 (liveV s v1 x false g i) f) (hpOf [o0, runO (runC 0 true s x x 0 cm fr lf), lO s])) =
    some (.normal, [.int .i64 x, rP], 143, (3, 2, 2), [o0, runO (runC 0 true s x (x + 44999) 0 cm fr lf), lO s], [W64 (x + 44999) = x + 44999, decide (x + 44999 < x) = false, decide (x + 44999 > 1099511627776) = false, W64 (x + 44999 - x) = 44999]) := by kernel_rfl
theorem c_tail2 (o0 : Option AObj) (s : ByteArray) (x fr : Int) (cm lf : Value) (f : Fr) :
    roundOutH [6] [0, 1, 2] ((runHR Tryd.prog 0 (chH [(3, 131, .int (x + 45000)), (27, 10, .bool false), (27, 13, .bool false), (12, 30, .int 45000)]) 200).1 3 tail2 (canonF 143 [(2, .int .i64 x), (8, rP)] f) (hpOf [o0, runO (runC 0 true s x (x + 44999) 0 cm fr lf), lO s])) =
    some (.ret, [.bool true], 143, (3, 6, 2), [o0, runO (runC 0 false s x (x + 45000) 3 cm fr lf), lO s], [W64 (x + 45000) = x + 45000, decide (x + 45000 < x + 44999) = false, decide (x + 45000 > 1099511627776) = false, W64 (x + 45000 - x) = 45000]) := by kernel_rfl

/-! ### the easy ways -/

def earlyP (s : ByteArray) : List Prop := [decide ((s.size : Int) ≤ 1024) = false, decide ((s.size : Int) > 1024) = true]
theorem e_long0 (s : ByteArray) (x : Int) : callOut 0 ((runHR Tryd.prog 0 (chH [(43, 20, .bool false), (3, 29, .bool true)]) 200).2 3 [.string s, .slice none 0 0, .int .i64 x] (bare 0)) = some (.bool true, earlyP s) := by kernel_rfl
theorem e_long1 (cs : List Value) (s : ByteArray) (n c : Nat) (x : Int) : callOut 1 ((runHR Tryd.prog 0 (chH [(43, 20, .bool false), (3, 29, .bool true)]) 200).2 3 [.string s, pSl n c, .int .i64 x] (cameH cs 5)) = some (.bool true, earlyP s) := by kernel_rfl
def offP (s : ByteArray) (x : Int) (a : Bool) : List Prop := [decide ((s.size : Int) ≤ 1024) = true, decide (x < 0) = a] ++ bif a then [] else [decide (x > 549755813888) = true]
theorem e_off0 (s : ByteArray) (x : Int) (a : Bool) : callOut 0 ((runHR Tryd.prog 0 (chH [(43, 20, .bool true), (3, 37, .bool a), (3, 41, .bool true)]) 200).2 3 [.string s, .slice none 0 0, .int .i64 x] (bare 0)) = some (.bool true, offP s x a) := by
  cases a <;> kernel_rfl
theorem e_off1 (cs : List Value) (s : ByteArray) (n c : Nat) (x : Int) (a : Bool) : callOut 1 ((runHR Tryd.prog 0 (chH [(43, 20, .bool true), (3, 37, .bool a), (3, 41, .bool true)]) 200).2 3 [.string s, pSl n c, .int .i64 x] (cameH cs 5)) = some (.bool true, offP s x a) := by
  cases a <;> kernel_rfl
end Go.Proofs.YtgniedijgbaheaaDoor
