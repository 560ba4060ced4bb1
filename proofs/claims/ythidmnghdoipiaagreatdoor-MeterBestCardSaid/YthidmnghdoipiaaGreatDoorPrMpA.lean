/- Meter: whatever goes over a link: what its functions of numbers answer. -/
import Derived.Test.YthidmnghdoipiaaGreatDoorChecked
import Derived.WalkKit
import Derived.Lib.Hide
import Derived.Test.YthidmnghdoipiaaGreatDoorKit8
import Derived.Test.YthidmnghdoipiaaGreatDoorKit9
import Derived.Test.YthidmnghdoipiaaGreatDoorKit12
import Derived.Test.YthidmnghdoipiaaGreatDoorKit13
namespace Go.Proofs.YthidmnghdoipiaaGreatDoor
open Go Go.RowKit Go.Ev
theorem zerosFlat_here : zerosFlat Tryz.prog = true := by kernel_rfl
theorem mixed_here : Tryz.prog.follows .mixedOrders = true := by kernel_rfl
def toldFn : List Value → Option Value
  | [.float .f64 a] => some (.float .f64 (toldF a))
  | _ => .none
def toldG (n : Bool) (a : Nat) : Nat := bif n then qnan else a
theorem told_run (a : Nat) (n : Bool) : plainOut 0 ((runHR Tryz.prog 0 (plainHints [(20, 5, .bool n)] []) 30).2 20 [.float .f64 a] (bare 0)) = some (.float .f64 (toldG n a), [nanB a = n]) := by
  cases n <;> kernel_rfl
theorem told2_run (a : Nat) (n : Bool) : plainOut 0 ((runHR Tryz.prog 0 (plainHints [(52, 5, .bool n)] []) 30).2 52 [.float .f64 a] (bare 0)) = some (.float .f64 (toldG n a), [nanB a = n]) := by
  cases n <;> kernel_rfl
theorem told_tup (a : Nat) (h : AH) : CTup Tryz.prog 0 20 [.float .f64 a] h (.ret (.float .f64 (toldF a))) h :=
  plain_tup zerosFlat_here mixed_here (plainHints_ok Sums.Ok.nil) (told_run a (nanB a)) (fun p hp => by simp at hp; exact hp) rfl h
theorem told2_tup (a : Nat) (h : AH) : CTup Tryz.prog 0 52 [.float .f64 a] h (.ret (.float .f64 (toldF a))) h :=
  plain_tup zerosFlat_here mixed_here (plainHints_ok Sums.Ok.nil) (told2_run a (nanB a)) (fun p hp => by simp at hp; exact hp) rfl h
theorem told_any (a : Nat) (w : World) : Calls Tryz.prog 20 #[.float .f64 a] w fun e w' => e = .returned (.float .f64 (toldF a)) ∧ Quiet w w' := calls_of_ctup (told_tup a) rfl rfl w
theorem told2_any (a : Nat) (w : World) : Calls Tryz.prog 52 #[.float .f64 a] w fun e w' => e = .returned (.float .f64 (toldF a)) ∧ Quiet w w' := calls_of_ctup (told2_tup a) rfl rfl w
def End1 (w : World) (r : Nat) (e : Ending) (w' : World) : Prop := e = .returned (.float .f64 (toldF r)) ∧ Quiet w w'
set_option maxHeartbeats 400000 in
set_option maxRecDepth 100000 in
theorem ratio_any (a b : Nat) (w : World) : ∃ r, FloatR .quo a b r ∧ Calls Tryz.prog 25 #[.float .f64 a, .float .f64 b] w (End1 w r) := by
  obtain ⟨r, w1, hrun, hw, hr⟩ := run_float_any (P := Tryz.prog) .quo (by simp) 37 a b w
  refine ⟨r, hr, ?_⟩
  have HW := Lib.hid (Quiet.of hw)
  clear hw hr
  go_enter Tryz.func25, Tryz.ntmps25
  go_wp2_with (go_at_call 20; refine (told_any _ _).mono ?_; rintro e w' ⟨rfl, hq⟩; have HQ := Lib.hid hq; clear hq)
  go_ret
  exact ⟨rfl, HW.out.trans HQ.out⟩
theorem run_conv (n : Int) (w : World) : (convert 3 37 (.int .i64 n)).run Tryz.prog w = .ok (.float .f64 (floatOfInt .f64 n)) w :=
  run_convert_int_float (P := Tryz.prog) (w := w) 3 37 .i64 .f64 n (by kernel_rfl) Tryz.underlying37
def EndM (w : World) (old v f : Nat) (e : Ending) (w' : World) : Prop := ∃ r1 r2 r3, FloatR .sub v old r1 ∧ FloatR .quo r1 f r2 ∧ FloatR .add old r2 r3 ∧ e = .returned (.float .f64 (toldF r3)) ∧ Quiet w w'
set_option maxHeartbeats 400000 in
set_option maxRecDepth 100000 in
theorem mean_no (a b : Nat) (n : Int) (w : World) (h : nanB a = false) : Calls Tryz.prog 26 #[.float .f64 a, .float .f64 b, .int .i64 n] w (EndM w a b (floatOfInt .f64 n)) := by
  obtain ⟨r1, w1, hrun1, hw1, hr1⟩ := run_float_any (P := Tryz.prog) .sub (by simp) 37 b a w
  have hc := run_conv n w1
  generalize floatOfInt .f64 n = f at *
  obtain ⟨r2, w2, hrun2, hw2, hr2⟩ := run_float_any (P := Tryz.prog) .quo (by simp) 37 r1 f w1
  obtain ⟨r3, w3, hrun3, hw3, hr3⟩ := run_float_any (P := Tryz.prog) .add (by simp) 37 a r2 w2
  have HW := Lib.hid (((Quiet.of hw1).trans (Quiet.of hw2)).trans (Quiet.of hw3))
  have HR := Lib.hid (And.intro hr1 (And.intro hr2 hr3))
  clear hw1 hw2 hw3 hr1 hr2 hr3
  have h' : (FloatKind.f64.format.order a a != some .eq) = false := h
  clear h
  go_enter Tryz.func26, Tryz.ntmps26
  go_wp2_with (go_at_call 20; refine (told_any _ _).mono ?_; rintro e w' ⟨rfl, hq⟩; have HQ := Lib.hid hq; clear hq)
  go_ret
  exact ⟨r1, r2, r3, HR.out.1, HR.out.2.1, HR.out.2.2, rfl, HW.out.trans HQ.out⟩
set_option maxHeartbeats 400000 in
set_option maxRecDepth 100000 in
theorem mean_nan (a b : Nat) (n : Int) (w : World) (h : nanB a = true) : Calls Tryz.prog 26 #[.float .f64 a, .float .f64 b, .int .i64 n] w (End1 w b) := by
  have h' : (FloatKind.f64.format.order a a != some .eq) = true := h
  clear h
  go_enter Tryz.func26, Tryz.ntmps26
  go_wp2_with (go_at_call 20; refine (told_any _ _).mono ?_; rintro e w' ⟨rfl, hq⟩; have HQ := Lib.hid hq; clear hq)
  go_ret
  exact ⟨rfl, HQ.out⟩
def End2 (w : World) (r : Nat) (e : Ending) (w' : World) : Prop := e = .returned (.tuple #[.float .f64 (toldF r), .int .i64 0]) ∧ Quiet w w'
set_option maxHeartbeats 400000 in
set_option maxRecDepth 100000 in
theorem ratio2_any (a b : Nat) (w : World) : ∃ r, FloatR .quo a b r ∧ Calls Tryz.prog 46 #[.float .f64 a, .float .f64 b] w (End1 w r) := by
  obtain ⟨r, w1, hrun, hw, hr⟩ := run_float_any (P := Tryz.prog) .quo (by simp) 37 a b w
  refine ⟨r, hr, ?_⟩
  have HW := Lib.hid (Quiet.of hw)
  clear hw hr
  go_enter Tryz.func46, Tryz.ntmps46
  go_wp2_with (go_at_call 52; refine (told2_any _ _).mono ?_; rintro e w' ⟨rfl, hq⟩; have HQ := Lib.hid hq; clear hq)
  go_ret
  exact ⟨rfl, HW.out.trans HQ.out⟩
def EndM2 (w : World) (old v f : Nat) (e : Ending) (w' : World) : Prop := ∃ r1 r2 r3, FloatR .sub v old r1 ∧ FloatR .quo r1 f r2 ∧ FloatR .add old r2 r3 ∧ e = .returned (.tuple #[.float .f64 (toldF r3), .int .i64 0]) ∧ Quiet w w'
set_option maxHeartbeats 400000 in
set_option maxRecDepth 100000 in
theorem rmean_no (a b : Nat) (n : Int) (w : World) (h : nanB a = false) (h1 : decide (n < 1) = false) (h2 : decide (1024 < n) = false) : Calls Tryz.prog 45 #[.float .f64 a, .float .f64 b, .int .i64 n] w (EndM2 w a b (floatOfInt .f64 n)) := by
  obtain ⟨r1, w1, hrun1, hw1, hr1⟩ := run_float_any (P := Tryz.prog) .sub (by simp) 37 b a w
  have hc := run_conv n w1
  generalize floatOfInt .f64 n = f at *
  obtain ⟨r2, w2, hrun2, hw2, hr2⟩ := run_float_any (P := Tryz.prog) .quo (by simp) 37 r1 f w1
  obtain ⟨r3, w3, hrun3, hw3, hr3⟩ := run_float_any (P := Tryz.prog) .add (by simp) 37 a r2 w2
  have HW := Lib.hid (((Quiet.of hw1).trans (Quiet.of hw2)).trans (Quiet.of hw3))
  have HR := Lib.hid (And.intro hr1 (And.intro hr2 hr3))
  clear hw1 hw2 hw3 hr1 hr2 hr3
  have h' : (FloatKind.f64.format.order a a != some .eq) = false := h
  clear h
  go_enter Tryz.func45, Tryz.ntmps45
  go_wp2_with (go_at_call 52; refine (told2_any _ _).mono ?_; rintro e w' ⟨rfl, hq⟩; have HQ := Lib.hid hq; clear hq)
  go_ret2
  exact ⟨r1, r2, r3, HR.out.1, HR.out.2.1, HR.out.2.2, rfl, HW.out.trans HQ.out⟩
set_option maxHeartbeats 400000 in
set_option maxRecDepth 100000 in
theorem rmean_nan (a b : Nat) (n : Int) (w : World) (h : nanB a = true) (h1 : decide (n < 1) = false) (h2 : decide (1024 < n) = false) : Calls Tryz.prog 45 #[.float .f64 a, .float .f64 b, .int .i64 n] w (End2 w b) := by
  have h' : (FloatKind.f64.format.order a a != some .eq) = true := h
  clear h
  go_enter Tryz.func45, Tryz.ntmps45
  go_wp2_with (go_at_call 52; refine (told2_any _ _).mono ?_; rintro e w' ⟨rfl, hq⟩; have HQ := Lib.hid hq; clear hq)
  go_ret2
  exact ⟨rfl, HQ.out⟩

/-! ### the same as plain calls -/

def ratF (a b : Nat) : Nat := toldF (valF .quo a b)
def meanF (a b f : Nat) : Nat := bif nanB a then toldF b else toldF (valF .add a (valF .quo (valF .sub b a) f))
def ratioFn : List Value → Option Value
  | [.float .f64 a, .float .f64 b] => some (.float .f64 (ratF a b))
  | _ => .none
theorem ratio_tup (args : List Value) (v : Value) (e : ratioFn args = some v) (h : AH) : CTup Tryz.prog 0 25 args h (.ret v) h := by
  unfold ratioFn at e
  split at e
  · rename_i a b
    cases e
    refine ctup_of_calls rfl rfl (fun w => ?_) h
    obtain ⟨r, hr, hc⟩ := ratio_any a b w
    refine hc.mono fun en w' hen => ⟨?_, hen.2⟩
    rw [hen.1]; unfold ratF; rw [toldF_eq (hr.val (.inl rfl) (.inl rfl))]
  · cases e
theorem ratio2_tup (args : List Value) (v : Value) (e : ratioFn args = some v) (h : AH) : CTup Tryz.prog 0 46 args h (.ret v) h := by
  unfold ratioFn at e
  split at e
  · rename_i a b
    cases e
    refine ctup_of_calls rfl rfl (fun w => ?_) h
    obtain ⟨r, hr, hc⟩ := ratio2_any a b w
    refine hc.mono fun en w' hen => ⟨?_, hen.2⟩
    rw [hen.1]; unfold ratF; rw [toldF_eq (hr.val (.inl rfl) (.inl rfl))]
  · cases e
theorem chain {a b f r1 r2 r3 : Nat} (h1 : FloatR .sub b a r1) (h2 : FloatR .quo r1 f r2) (h3 : FloatR .add a r2 r3) : toldF r3 = toldF (valF .add a (valF .quo (valF .sub b a) f)) :=
  toldF_eq (h3.val (.inl rfl) (h2.val (h1.val (.inl rfl) (.inl rfl)) (.inl rfl)))
def meanFn : List Value → Option Value
  | [.float .f64 a, .float .f64 b, .int .i64 n] => some (.float .f64 (meanF a b (floatOfInt .f64 n)))
  | _ => .none
theorem mean_tup (args : List Value) (v : Value) (e : meanFn args = some v) (h : AH) : CTup Tryz.prog 0 26 args h (.ret v) h := by
  unfold meanFn at e
  split at e
  · rename_i a b n
    cases e
    refine ctup_of_calls rfl rfl (fun w => ?_) h
    unfold meanF
    cases hn : nanB a with
    | true => exact (mean_nan a b n w hn).mono fun en w' hen => ⟨hen.1, hen.2⟩
    | false =>
      refine (mean_no a b n w hn).mono fun en w' hen => ?_
      obtain ⟨r1, r2, r3, h1, h2, h3, he, hq⟩ := hen
      exact ⟨by rw [he, chain h1 h2 h3]; rfl, hq⟩
  · cases e
def outB (n : Int) : Bool := decide (n < 1) || decide (n > 1024)
def meansX (o : Bool) (x : Nat) : Nat := bif o then 0 else x
def meansE (o : Bool) : Int := bif o then 1 else 0
def meansV (o : Bool) (x : Nat) : Value := .tuple #[.float .f64 (meansX o x), .int .i64 (meansE o)]
def meansFn : List Value → Option Value
  | [.float .f64 a, .float .f64 b, .int .i64 n] => some (meansV (outB n) (meanF a b (floatOfInt .f64 n)))
  | _ => .none
theorem rmeans_tup (args : List Value) (v : Value) (e : meansFn args = some v) (h : AH) : CTup Tryz.prog 0 45 args h (.ret v) h := by
  unfold meansFn at e
  split at e
  · rename_i a b n
    cases e
    cases h1 : decide (n < 1) with
    | true =>
      have hr : plainOut 0 ((runHR Tryz.prog 0 (plainHints [(45, 9, .bool true)] []) 30).2 45 [.float .f64 a, .float .f64 b, .int .i64 n] (bare 0)) = some (.tuple #[.float .f64 0, .int .i64 1], [decide (n < 1) = true]) := by kernel_rfl
      have := plain_tup zerosFlat_here mixed_here (plainHints_ok Sums.Ok.nil) hr (fun p hp => by simp at hp; rw [hp]; simpa using h1) rfl h
      unfold outB; rw [h1]; exact this
    | false =>
      cases h2 : decide (n > 1024) with
      | true =>
        have hr : plainOut 0 ((runHR Tryz.prog 0 (plainHints [(45, 9, .bool false), (45, 12, .bool true)] []) 30).2 45 [.float .f64 a, .float .f64 b, .int .i64 n] (bare 0)) = some (.tuple #[.float .f64 0, .int .i64 1], [decide (n < 1) = false, decide (n > 1024) = true]) := by kernel_rfl
        have := plain_tup zerosFlat_here mixed_here (plainHints_ok Sums.Ok.nil) hr (fun p hp => by
          rcases List.mem_cons.1 hp with rfl | hp
          · exact h1
          · rcases List.mem_cons.1 hp with rfl | hp
            · exact h2
            · cases hp) rfl h
        unfold outB; rw [h1, h2]; exact this
      | false =>
        unfold outB; rw [h1, h2]
        refine ctup_of_calls rfl rfl (fun w => ?_) h
        unfold meanF
        cases hn : nanB a with
        | true => exact (rmean_nan a b n w hn h1 h2).mono fun en w' hen => ⟨hen.1, hen.2⟩
        | false =>
          refine (rmean_no a b n w hn h1 h2).mono fun en w' hen => ?_
          obtain ⟨r1, r2, r3, h1, h2, h3, he, hq⟩ := hen
          exact ⟨by rw [he, chain h1 h2 h3]; rfl, hq⟩
  · cases e

end Go.Proofs.YthidmnghdoipiaaGreatDoor
