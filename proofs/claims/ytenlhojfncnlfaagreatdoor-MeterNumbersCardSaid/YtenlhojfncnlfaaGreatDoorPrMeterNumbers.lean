/- MeterNumbers: for every input the law returns true, and each argument reads behind the call as it read before. -/
import Derived.Test.YtenlhojfncnlfaaGreatDoorRows
import Derived.Test.YtenlhojfncnlfaaGreatDoorTie
import Derived.Test.YtenlhojfncnlfaaGreatDoorCards
import Derived.Test.YtenlhojfncnlfaaGreatDoorEvPost
import Derived.Test.YtenlhojfncnlfaaGreatDoorSxFloat3
import Derived.WalkKit
import Derived.Lib.Hide
import Derived.LaidMore
import Derived.OpenShut
import Derived.Lay
import Derived.Stop.Joined
import Derived.SevenTiedAt
namespace Go.Proofs.YtenlhojfncnlfaaGreatDoor
open Go Go.ChangeShapes Go.WideShapes Go.ChangeAt Go.WideMaps Go.WideElems Go.RowKit Go.Ev
theorem zerosFlat_here : zerosFlat Tryz.prog = true := by kernel_rfl
theorem mixed_here : Tryz.prog.follows .mixedOrders = true := by kernel_rfl
theorem laidOut_here : laidOutB Tryz.prog = true := by kernel_rfl
theorem own_here : ownKnob Tryz.prog.godebug = Option.none := by kernel_rfl
def toldFn : List Value → Option Value
  | [.float .f64 a] => some (.float .f64 (toldF a))
  | _ => .none
def toldG (n : Bool) (a : Nat) : Nat := bif n then qnan else a
theorem told_run (a : Nat) (n : Bool) : plainOut 0 ((runHR Tryz.prog 0 (plainHints [(19, 5, .bool n)] []) 30).2 19 [.float .f64 a] (bare 0)) = some (.float .f64 (toldG n a), [nanB a = n]) := by
  cases n <;> kernel_rfl
theorem told2_run (a : Nat) (n : Bool) : plainOut 0 ((runHR Tryz.prog 0 (plainHints [(17, 5, .bool n)] []) 30).2 17 [.float .f64 a] (bare 0)) = some (.float .f64 (toldG n a), [nanB a = n]) := by
  cases n <;> kernel_rfl
theorem told_tup (a : Nat) (h : AH) : CTup Tryz.prog 0 19 [.float .f64 a] h (.ret (.float .f64 (toldF a))) h :=
  plain_tup zerosFlat_here mixed_here (plainHints_ok Sums.Ok.nil) (told_run a (nanB a)) (fun p hp => by simp at hp; exact hp) rfl h
theorem told2_tup (a : Nat) (h : AH) : CTup Tryz.prog 0 17 [.float .f64 a] h (.ret (.float .f64 (toldF a))) h :=
  plain_tup zerosFlat_here mixed_here (plainHints_ok Sums.Ok.nil) (told2_run a (nanB a)) (fun p hp => by simp at hp; exact hp) rfl h
theorem told_any (a : Nat) (w : World) : Calls Tryz.prog 19 #[.float .f64 a] w fun e w' => e = .returned (.float .f64 (toldF a)) ∧ Quiet w w' := calls_of_ctup (told_tup a) rfl rfl w
theorem told2_any (a : Nat) (w : World) : Calls Tryz.prog 17 #[.float .f64 a] w fun e w' => e = .returned (.float .f64 (toldF a)) ∧ Quiet w w' := calls_of_ctup (told2_tup a) rfl rfl w
def End1 (w : World) (r : Nat) (e : Ending) (w' : World) : Prop := e = .returned (.float .f64 (toldF r)) ∧ Quiet w w'
set_option maxHeartbeats 400000 in
set_option maxRecDepth 100000 in
theorem ratio_any (a b : Nat) (w : World) : ∃ r, FloatR .quo a b r ∧ Calls Tryz.prog 8 #[.float .f64 a, .float .f64 b] w (End1 w r) := by
  obtain ⟨r, w1, hrun, hw, hr⟩ := run_float_any (P := Tryz.prog) .quo (by simp) 22 a b w
  refine ⟨r, hr, ?_⟩
  have HW := Lib.hid (Quiet.of hw)
  clear hw hr
  go_enter Tryz.func8, Tryz.ntmps8
  go_wp2_with (go_at_call 19; refine (told_any _ _).mono ?_; rintro e w' ⟨rfl, hq⟩; have HQ := Lib.hid hq; clear hq)
  go_ret
  exact ⟨rfl, HW.out.trans HQ.out⟩
theorem run_conv (n : Int) (w : World) : (convert 3 22 (.int .i64 n)).run Tryz.prog w = .ok (.float .f64 (floatOfInt .f64 n)) w :=
  run_convert_int_float (P := Tryz.prog) (w := w) 3 22 .i64 .f64 n (by kernel_rfl) Tryz.underlying22
def EndM (w : World) (old v f : Nat) (e : Ending) (w' : World) : Prop := ∃ r1 r2 r3, FloatR .sub v old r1 ∧ FloatR .quo r1 f r2 ∧ FloatR .add old r2 r3 ∧ e = .returned (.float .f64 (toldF r3)) ∧ Quiet w w'
set_option maxHeartbeats 400000 in
set_option maxRecDepth 100000 in
theorem mean_no (a b : Nat) (n : Int) (w : World) (h : nanB a = false) : Calls Tryz.prog 16 #[.float .f64 a, .float .f64 b, .int .i64 n] w (EndM w a b (floatOfInt .f64 n)) := by
  obtain ⟨r1, w1, hrun1, hw1, hr1⟩ := run_float_any (P := Tryz.prog) .sub (by simp) 22 b a w
  have hc := run_conv n w1
  generalize floatOfInt .f64 n = f at *
  obtain ⟨r2, w2, hrun2, hw2, hr2⟩ := run_float_any (P := Tryz.prog) .quo (by simp) 22 r1 f w1
  obtain ⟨r3, w3, hrun3, hw3, hr3⟩ := run_float_any (P := Tryz.prog) .add (by simp) 22 a r2 w2
  have HW := Lib.hid (((Quiet.of hw1).trans (Quiet.of hw2)).trans (Quiet.of hw3))
  have HR := Lib.hid (And.intro hr1 (And.intro hr2 hr3))
  clear hw1 hw2 hw3 hr1 hr2 hr3
  have h' : (FloatKind.f64.format.order a a != some .eq) = false := h
  clear h
  go_enter Tryz.func16, Tryz.ntmps16
  go_wp2_with (go_at_call 19; refine (told_any _ _).mono ?_; rintro e w' ⟨rfl, hq⟩; have HQ := Lib.hid hq; clear hq)
  go_ret
  exact ⟨r1, r2, r3, HR.out.1, HR.out.2.1, HR.out.2.2, rfl, HW.out.trans HQ.out⟩
set_option maxHeartbeats 400000 in
set_option maxRecDepth 100000 in
theorem mean_nan (a b : Nat) (n : Int) (w : World) (h : nanB a = true) : Calls Tryz.prog 16 #[.float .f64 a, .float .f64 b, .int .i64 n] w (End1 w b) := by
  have h' : (FloatKind.f64.format.order a a != some .eq) = true := h
  clear h
  go_enter Tryz.func16, Tryz.ntmps16
  go_wp2_with (go_at_call 19; refine (told_any _ _).mono ?_; rintro e w' ⟨rfl, hq⟩; have HQ := Lib.hid hq; clear hq)
  go_ret
  exact ⟨rfl, HQ.out⟩
def End2 (w : World) (r : Nat) (e : Ending) (w' : World) : Prop := e = .returned (.tuple #[.float .f64 (toldF r), .int .i64 0]) ∧ Quiet w w'
set_option maxHeartbeats 400000 in
set_option maxRecDepth 100000 in
theorem ratio2_any (a b : Nat) (w : World) : ∃ r, FloatR .quo a b r ∧ Calls Tryz.prog 9 #[.float .f64 a, .float .f64 b] w (End1 w r) := by
  obtain ⟨r, w1, hrun, hw, hr⟩ := run_float_any (P := Tryz.prog) .quo (by simp) 22 a b w
  refine ⟨r, hr, ?_⟩
  have HW := Lib.hid (Quiet.of hw)
  clear hw hr
  go_enter Tryz.func9, Tryz.ntmps9
  go_wp2_with (go_at_call 17; refine (told2_any _ _).mono ?_; rintro e w' ⟨rfl, hq⟩; have HQ := Lib.hid hq; clear hq)
  go_ret
  exact ⟨rfl, HW.out.trans HQ.out⟩
def EndM2 (w : World) (old v f : Nat) (e : Ending) (w' : World) : Prop := ∃ r1 r2 r3, FloatR .sub v old r1 ∧ FloatR .quo r1 f r2 ∧ FloatR .add old r2 r3 ∧ e = .returned (.tuple #[.float .f64 (toldF r3), .int .i64 0]) ∧ Quiet w w'
set_option maxHeartbeats 400000 in
set_option maxRecDepth 100000 in
theorem rmean_no (a b : Nat) (n : Int) (w : World) (h : nanB a = false) (h1 : decide (n < 1) = false) (h2 : decide (1024 < n) = false) : Calls Tryz.prog 6 #[.float .f64 a, .float .f64 b, .int .i64 n] w (EndM2 w a b (floatOfInt .f64 n)) := by
  obtain ⟨r1, w1, hrun1, hw1, hr1⟩ := run_float_any (P := Tryz.prog) .sub (by simp) 22 b a w
  have hc := run_conv n w1
  generalize floatOfInt .f64 n = f at *
  obtain ⟨r2, w2, hrun2, hw2, hr2⟩ := run_float_any (P := Tryz.prog) .quo (by simp) 22 r1 f w1
  obtain ⟨r3, w3, hrun3, hw3, hr3⟩ := run_float_any (P := Tryz.prog) .add (by simp) 22 a r2 w2
  have HW := Lib.hid (((Quiet.of hw1).trans (Quiet.of hw2)).trans (Quiet.of hw3))
  have HR := Lib.hid (And.intro hr1 (And.intro hr2 hr3))
  clear hw1 hw2 hw3 hr1 hr2 hr3
  have h' : (FloatKind.f64.format.order a a != some .eq) = false := h
  clear h
  go_enter Tryz.func6, Tryz.ntmps6
  go_wp2_with (go_at_call 17; refine (told2_any _ _).mono ?_; rintro e w' ⟨rfl, hq⟩; have HQ := Lib.hid hq; clear hq)
  go_ret2
  exact ⟨r1, r2, r3, HR.out.1, HR.out.2.1, HR.out.2.2, rfl, HW.out.trans HQ.out⟩
set_option maxHeartbeats 400000 in
set_option maxRecDepth 100000 in
theorem rmean_nan (a b : Nat) (n : Int) (w : World) (h : nanB a = true) (h1 : decide (n < 1) = false) (h2 : decide (1024 < n) = false) : Calls Tryz.prog 6 #[.float .f64 a, .float .f64 b, .int .i64 n] w (End2 w b) := by
  have h' : (FloatKind.f64.format.order a a != some .eq) = true := h
  clear h
  go_enter Tryz.func6, Tryz.ntmps6
  go_wp2_with (go_at_call 17; refine (told2_any _ _).mono ?_; rintro e w' ⟨rfl, hq⟩; have HQ := Lib.hid hq; clear hq)
  go_ret2
  exact ⟨rfl, HQ.out⟩

/-! ### the same as plain calls -/

def ratF (a b : Nat) : Nat := toldF (valF .quo a b)
def meanF (a b f : Nat) : Nat := bif nanB a then toldF b else toldF (valF .add a (valF .quo (valF .sub b a) f))
def ratioFn : List Value → Option Value
  | [.float .f64 a, .float .f64 b] => some (.float .f64 (ratF a b))
  | _ => .none
theorem ratio_tup (args : List Value) (v : Value) (e : ratioFn args = some v) (h : AH) : CTup Tryz.prog 0 8 args h (.ret v) h := by
  unfold ratioFn at e
  split at e
  · rename_i a b
    cases e
    refine ctup_of_calls rfl rfl (fun w => ?_) h
    obtain ⟨r, hr, hc⟩ := ratio_any a b w
    refine hc.mono fun en w' hen => ⟨?_, hen.2⟩
    rw [hen.1]; unfold ratF; rw [toldF_eq (hr.val (.inl rfl) (.inl rfl))]
  · cases e
theorem ratio2_tup (args : List Value) (v : Value) (e : ratioFn args = some v) (h : AH) : CTup Tryz.prog 0 9 args h (.ret v) h := by
  unfold ratioFn at e
  split at e
  · rename_i a b
    cases e
    refine ctup_of_calls rfl rfl (fun w => ?_) h
    obtain ⟨r, hr, hc⟩ := ratio2_any a b w
    refine hc.mono fun en w' hen => ⟨?_, hen.2⟩
    rw [hen.1]; unfold ratF; rw [toldF_eq (hr.val (.inl rfl) (.inl rfl))]
  · cases e
theorem chain {a b f r1 r2 r3 : Nat} (h1 : FloatR .sub b a r1) (h2 : FloatR .quo r1 f r2) (h3 : FloatR .add a r2 r3) : toldF r3 = toldF (valF .add a (valF .quo (valF .sub b a) f)) :=
  toldF_eq (h3.val (.inl rfl) (h2.val (h1.val (.inl rfl) (.inl rfl)) (.inl rfl)))
def meanFn : List Value → Option Value
  | [.float .f64 a, .float .f64 b, .int .i64 n] => some (.float .f64 (meanF a b (floatOfInt .f64 n)))
  | _ => .none
theorem mean_tup (args : List Value) (v : Value) (e : meanFn args = some v) (h : AH) : CTup Tryz.prog 0 16 args h (.ret v) h := by
  unfold meanFn at e
  split at e
  · rename_i a b n
    cases e
    refine ctup_of_calls rfl rfl (fun w => ?_) h
    unfold meanF
    cases hn : nanB a with
    | true => exact (mean_nan a b n w hn).mono fun en w' hen => ⟨hen.1, hen.2⟩
    | false =>
      refine (mean_no a b n w hn).mono fun en w' hen => ?_
      obtain ⟨r1, r2, r3, h1, h2, h3, he, hq⟩ := hen
      exact ⟨by rw [he, chain h1 h2 h3]; rfl, hq⟩
  · cases e
def outB (n : Int) : Bool := decide (n < 1) || decide (n > 1024)
def meansX (o : Bool) (x : Nat) : Nat := bif o then 0 else x
def meansE (o : Bool) : Int := bif o then 1 else 0
def meansV (o : Bool) (x : Nat) : Value := .tuple #[.float .f64 (meansX o x), .int .i64 (meansE o)]
def meansFn : List Value → Option Value
  | [.float .f64 a, .float .f64 b, .int .i64 n] => some (meansV (outB n) (meanF a b (floatOfInt .f64 n)))
  | _ => .none
theorem means_run (a b : Nat) (n : Int) (t1 t2 : Bool) : plainOut 0 ((runHR Tryz.prog 0 (plainHints [(5, 9, .bool t1), (5, 12, .bool t2)] [(16, meanFn)]) 30).2 5 [.float .f64 a, .float .f64 b, .int .i64 n] (bare 0)) =
    some (meansV (t1 || t2) (meanF a b (floatOfInt .f64 n)), (decide (n < 1) = t1) :: bif t1 then [] else [decide (n > 1024) = t2]) := by
  cases t1 <;> cases t2 <;> kernel_rfl
theorem means_tup (args : List Value) (v : Value) (e : meansFn args = some v) (h : AH) : CTup Tryz.prog 0 5 args h (.ret v) h := by
  unfold meansFn at e
  split at e
  · rename_i a b n
    cases e
    refine plain_tup zerosFlat_here mixed_here (plainHints_ok (.cons mean_tup .nil)) (means_run a b n (decide (n < 1)) (decide (n > 1024))) (fun p hp => ?_) rfl h
    cases h1 : decide (n < 1) <;> rw [h1] at hp <;> simp at hp <;> first | exact hp | (rcases hp with hp | hp <;> first | exact hp | (rw [hp]; trivial))
  · cases e
theorem rmeans_tup (args : List Value) (v : Value) (e : meansFn args = some v) (h : AH) : CTup Tryz.prog 0 6 args h (.ret v) h := by
  unfold meansFn at e
  split at e
  · rename_i a b n
    cases e
    cases h1 : decide (n < 1) with
    | true =>
      have hr : plainOut 0 ((runHR Tryz.prog 0 (plainHints [(6, 9, .bool true)] []) 30).2 6 [.float .f64 a, .float .f64 b, .int .i64 n] (bare 0)) = some (.tuple #[.float .f64 0, .int .i64 1], [decide (n < 1) = true]) := by kernel_rfl
      have := plain_tup zerosFlat_here mixed_here (plainHints_ok Sums.Ok.nil) hr (fun p hp => by simp at hp; rw [hp]; simpa using h1) rfl h
      unfold outB; rw [h1]; exact this
    | false =>
      cases h2 : decide (n > 1024) with
      | true =>
        have hr : plainOut 0 ((runHR Tryz.prog 0 (plainHints [(6, 9, .bool false), (6, 12, .bool true)] []) 30).2 6 [.float .f64 a, .float .f64 b, .int .i64 n] (bare 0)) = some (.tuple #[.float .f64 0, .int .i64 1], [decide (n < 1) = false, decide (n > 1024) = true]) := by kernel_rfl
        have := plain_tup zerosFlat_here mixed_here (plainHints_ok Sums.Ok.nil) hr (fun p hp => by
          rcases List.mem_cons.1 hp with rfl | hp
          · exact h1
          · rcases List.mem_cons.1 hp with rfl | hp
            · exact h2
            · cases hp) rfl h
        unfold outB; rw [h1, h2]; exact this
      | false =>
        unfold outB; rw [h1, h2]
        refine ctup_of_calls rfl rfl (fun w => ?_) h
        unfold meanF
        cases hn : nanB a with
        | true => exact (rmean_nan a b n w hn h1 h2).mono fun en w' hen => ⟨hen.1, hen.2⟩
        | false =>
          refine (rmean_no a b n w hn h1 h2).mono fun en w' hen => ?_
          obtain ⟨r1, r2, r3, h1, h2, h3, he, hq⟩ := hen
          exact ⟨by rw [he, chain h1 h2 h3]; rfl, hq⟩
  · cases e

/-! ### the sign of a number, its rank -/

def signbitFn : List Value → Option Value
  | [.float .f64 a] => some (.bool (sgF a))
  | _ => .none
theorem signbit_run (a : Nat) : plainOut 0 ((runHR Tryz.prog 0 (plainHints [] []) 30).2 22 [.float .f64 a] (bare 0)) = some (.bool (sgF a), []) := by kernel_rfl
theorem signbit_tup (args : List Value) (v : Value) (e : signbitFn args = some v) (h : AH) : CTup Tryz.prog 0 22 args h (.ret v) h := by
  unfold signbitFn at e
  split at e
  · cases e
    exact plain_tup zerosFlat_here mixed_here (plainHints_ok Sums.Ok.nil) (signbit_run _) (fun p hp => by cases hp) rfl h
  · cases e
def rankFn : List Value → Option Value
  | [.float .f64 a] => some (.int .i64 (rankF a))
  | _ => .none
def rankProps (a : Nat) (n z s : Bool) : List Prop := (nanB a = n) :: bif n then [] else (nullB a = z) :: bif z then [sgF a = s] else []
theorem rank_run (a : Nat) (n z s : Bool) : plainOut 0 ((runHR Tryz.prog 0 (plainHints [(21, 6, .bool n), (21, 9, .bool z), (21, 12, .bool s)] [(22, signbitFn)]) 30).2 21 [.float .f64 a] (bare 0)) = some (.int .i64 (rankI n z s), rankProps a n z s) := by
  cases n <;> cases z <;> cases s <;> kernel_rfl
theorem rank_tup (args : List Value) (v : Value) (e : rankFn args = some v) (h : AH) : CTup Tryz.prog 0 21 args h (.ret v) h := by
  unfold rankFn at e
  split at e
  · rename_i a
    cases e
    refine plain_tup zerosFlat_here mixed_here (plainHints_ok (.cons signbit_tup .nil)) (rank_run a (nanB a) (nullB a) (sgF a)) ?_ rfl h
    unfold rankProps
    intro p hp
    cases h1 : nanB a <;> cases h2 : nullB a <;> rw [h1, h2] at hp <;> simp at hp <;> (try rcases hp with rfl | rfl | rfl) <;> (try rcases hp with rfl | rfl) <;> simp_all
  · cases e

/-! ### the order -/

def ri : Bool → Bool → Int
  | false, _ => 0
  | true, false => 1
  | true, true => 2
def orderFn : List Value → Option Value
  | [.float .f64 a, .float .f64 b] => some (.int .i64 (ordF a b))
  | _ => .none
def orderProps (a b : Nat) (n1 n2 l g : Bool) (r1 r2 : Int) : List Prop :=
  ((nanB a = n1) :: bif n1 then [] else [nanB b = n2]) ++ (bif n1 || n2 then [rankF a = r1, rankF b = r2] else ((cmpF a b == some .lt) = l) :: bif l then [] else ((cmpF a b == some .gt) = g) :: bif g then [] else [rankF a = r1, rankF b = r2])
theorem order_run (a b : Nat) (n1 n2 l g p1 q1 p2 q2 : Bool) : plainOut 0 ((runHR Tryz.prog 0 (plainHints [(10, 8, .bool n1), (10, 12, .bool n2), (10, 25, .bool l), (10, 29, .bool g), (10, 15, .int (ri p1 q1)), (10, 18, .int (ri p2 q2)), (10, 31, .int (ri p1 q1)), (10, 33, .int (ri p2 q2))] [(21, rankFn)]) 30).2 10 [.float .f64 a, .float .f64 b] (bare 0)) =
    some (.int .i64 (ordG n1 n2 l g (ri p1 q1) (ri p2 q2)), orderProps a b n1 n2 l g (ri p1 q1) (ri p2 q2)) := by
  cases n1 <;> cases n2 <;> cases l <;> cases g <;> cases p1 <;> cases q1 <;> cases p2 <;> cases q2 <;> kernel_rfl
theorem rankI_ri (n z s : Bool) : ∃ p q, rankI n z s = ri p q := by
  cases n <;> cases z <;> cases s <;> first | exact ⟨false, false, rfl⟩ | exact ⟨true, false, rfl⟩ | exact ⟨true, true, rfl⟩
theorem order_tup (args : List Value) (v : Value) (e : orderFn args = some v) (h : AH) : CTup Tryz.prog 0 10 args h (.ret v) h := by
  unfold orderFn at e
  split at e
  · rename_i a b
    cases e
    obtain ⟨p1, q1, e1⟩ := rankI_ri (nanB a) (nullB a) (sgF a)
    obtain ⟨p2, q2, e2⟩ := rankI_ri (nanB b) (nullB b) (sgF b)
    have e1' : rankF a = ri p1 q1 := e1
    have e2' : rankF b = ri p2 q2 := e2
    have hr := order_run a b (nanB a) (nanB b) (cmpF a b == some .lt) (cmpF a b == some .gt) p1 q1 p2 q2
    rw [← e1', ← e2'] at hr
    refine plain_tup zerosFlat_here mixed_here (plainHints_ok (.cons rank_tup .nil)) hr ?_ rfl h
    unfold orderProps
    intro p hp
    cases h1 : nanB a <;> cases h2 : nanB b <;> cases h3 : (cmpF a b == some .lt) <;> cases h4 : (cmpF a b == some .gt) <;> rw [h1, h2, h3, h4] at hp <;>
      simp only [Bool.or_false, Bool.or_true, Bool.or_self, cond_true, cond_false, List.cons_append, List.nil_append, List.mem_cons, List.not_mem_nil, or_false] at hp <;>
      (first | (rcases hp with rfl | rfl | rfl | rfl | rfl | rfl) | (rcases hp with rfl | rfl | rfl | rfl | rfl) | (rcases hp with rfl | rfl | rfl | rfl) | (rcases hp with rfl | rfl | rfl)) <;> first | rfl | assumption | trivial
  · cases e
def bitsB (a b : Nat) : Bool := (a : Int) == (b : Int)
def bitsFn : List Value → Option Value
  | [.float .f64 a, .float .f64 b] => some (.bool (bitsB a b))
  | _ => .none
theorem bits_run (a b : Nat) : plainOut 0 ((runHR Tryz.prog 0 (plainHints [] []) 30).2 7 [.float .f64 a, .float .f64 b] (bare 0)) = some (.bool (bitsB a b), []) := by kernel_rfl
theorem bits_tup (args : List Value) (v : Value) (e : bitsFn args = some v) (h : AH) : CTup Tryz.prog 0 7 args h (.ret v) h := by
  unfold bitsFn at e
  split at e
  · cases e
    exact plain_tup zerosFlat_here mixed_here (plainHints_ok Sums.Ok.nil) (bits_run _ _) (fun p hp => by cases hp) rfl h
  · cases e
def knownFn : List Value → Option Value
  | [] => some (.bool true)
  | _ => .none
theorem known_run : plainOut 0 ((runHR Tryz.prog 0 (plainHints [] []) 100).2 12 [] (bare 0)) = some (.bool true, []) := by kernel_rfl
theorem known_tup (args : List Value) (v : Value) (e : knownFn args = some v) (h : AH) : CTup Tryz.prog 0 12 args h (.ret v) h := by
  unfold knownFn at e
  split at e
  · cases e
    exact plain_tup zerosFlat_here mixed_here (plainHints_ok Sums.Ok.nil) known_run (fun p hp => by cases hp) rfl h
  · cases e

def refProps (a b : Nat) (n1 n2 l g s1 s2 : Bool) : List Prop :=
  ((nanB a = n1) :: bif n1 then [nanB b = n2] else []) ++ bif n1 && n2 then [] else (nanB a = n1) :: bif n1 then [] else (nanB b = n2) :: bif n2 then [] else ((cmpF a b == some .lt) = l) :: bif l then [] else ((cmpF a b == some .gt) = g) :: bif g then [] else
    ((sgF a = s1) :: bif s1 then [sgF b = s2] else []) ++ bif s1 && !s2 then [] else (sgF b = s2) :: bif s2 then [sgF a = s1] else []
theorem ref_run (a b : Nat) (n1 n2 l g s1 s2 : Bool) : plainOut 0 ((runHR Tryz.prog 0 (plainHints [(11, 8, .bool n1), (11, 12, .bool n2), (11, 17, .bool n1), (11, 21, .bool n2), (11, 25, .bool l), (11, 29, .bool g), (11, 32, .bool s1), (11, 35, .bool s2), (11, 40, .bool s2), (11, 43, .bool s1)] [(22, signbitFn)]) 30).2 11 [.float .f64 a, .float .f64 b] (bare 0)) =
    some (.int .i64 (refG n1 n2 l g s1 s2), refProps a b n1 n2 l g s1 s2) := by
  cases n1 <;> cases n2 <;> cases l <;> cases g <;> cases s1 <;> cases s2 <;> kernel_rfl
def refFn : List Value → Option Value
  | [.float .f64 a, .float .f64 b] => some (.int .i64 (refF a b))
  | _ => .none
theorem ref_tup (args : List Value) (v : Value) (e : refFn args = some v) (h : AH) : CTup Tryz.prog 0 11 args h (.ret v) h := by
  unfold refFn at e
  split at e
  · rename_i a b
    cases e
    refine plain_tup zerosFlat_here mixed_here (plainHints_ok (.cons signbit_tup .nil)) (ref_run a b (nanB a) (nanB b) (cmpF a b == some .lt) (cmpF a b == some .gt) (sgF a) (sgF b)) ?_ rfl h
    unfold refProps
    intro p hp
    cases h1 : nanB a <;> cases h2 : nanB b <;> cases h3 : (cmpF a b == some .lt) <;> cases h4 : (cmpF a b == some .gt) <;> cases h5 : sgF a <;> cases h6 : sgF b <;> rw [h1, h2, h3, h4, h5, h6] at hp <;>
      simp only [Bool.and_false, Bool.and_true, Bool.and_self, Bool.not_true, Bool.not_false, cond_true, cond_false, List.cons_append, List.nil_append, List.mem_cons, List.not_mem_nil, or_false] at hp <;>
      (repeat' (first | (rcases hp with rfl | hp) | (subst hp))) <;> first | rfl | assumption | trivial
  · cases e

/-! ### the law -/

def meanOf (a b : Nat) (n : Int) : Nat := meansX (outB n) (meanF a b (floatOfInt .f64 n))
theorem law_run (a b : Nat) (n : Int) :
    plainOut 0 ((runHR Tryz.prog 0 (plainHints [(3, 31, .bool true), (3, 35, .bool true), (3, 40, .bool true), (3, 49, .bool true)]
      [(5, meansFn), (6, meansFn), (7, bitsFn), (8, ratioFn), (9, ratioFn), (10, orderFn), (11, refFn), (12, knownFn)]) 30).2 3 [.float .f64 a, .float .f64 b, .int .i64 n] (bare 0)) =
    some (.bool true, [bitsB (ratF a b) (ratF a b) = true, bitsB (meanOf a b n) (meanOf a b n) = true, (meansE (outB n) == meansE (outB n)) = true, (ordF a b == refF a b) = true]) := by kernel_rfl
theorem law_tup (a b : Nat) (n : Int) (wa : W64 a) (wb : W64 b) (h : AH) : CTup Tryz.prog 0 3 [.float .f64 a, .float .f64 b, .int .i64 n] h (.ret (.bool true)) h := by
  refine plain_tup zerosFlat_here mixed_here (plainHints_ok (.cons means_tup (.cons rmeans_tup (.cons bits_tup (.cons ratio_tup (.cons ratio2_tup (.cons order_tup (.cons ref_tup (.cons known_tup .nil))))))))) (law_run a b n) ?_ rfl h
  have hb : ∀ x : Nat, bitsB x x = true := fun x => by unfold bitsB; simp
  intro p hp
  simp only [List.mem_cons, List.not_mem_nil, or_false] at hp
  rcases hp with rfl | rfl | rfl | rfl
  · exact hb _
  · exact hb _
  · simp
  · rw [ordF_ref wa wb]; simp
theorem wf64 {a : Nat} (h : (Lit.float .f64 a).wf = true) : W64 a := by simpa [Lit.wf] using h

theorem laid_fits (os : Os) : (World.holding Tryz.prog os ⟨#[], #[], []⟩).layFits Tryz.prog Rows.meterNumbersRow.laid [] = true := by kernel_rfl
theorem laid_ifaces (os : Os) : (World.holding Tryz.prog os ⟨#[], #[], []⟩).layIfaces Tryz.prog Rows.meterNumbersRow.laid (World.laidAll Tryz.prog os Rows.meterNumbersRow.laid) = true := by kernel_rfl
theorem laid_shaped (os : Os) : ((World.laidAll Tryz.prog os Rows.meterNumbersRow.laid).forCall (fun _ _ => 0) ⟨#[], #[.float .f64 0, .float .f64 0, .int .i64 0], []⟩).Shaped Tryz.prog := World.shaped_of_ZipB (by kernel_rfl) (by kernel_rfl)

set_option maxRecDepth 100000 in
theorem meterNumbers_lifted (os : Os) (started : os.Started) (H : Type) (enc : TypeId × Value → H) :
    ReturnsInHanded {} Tryz.checked os 3 .any (fun w args => (Rows.meterNumbersSpec.pre enc Tryz.prog Tryz.f3 [] false w args ∧ laidMetH Tryz.prog Rows.meterNumbersRow.laid w) ∧ sizedMet enc Tryz.prog Tryz.f3 (OpenSpec.ofChange Rows.meterNumbersSpec) false w args)
      (Rows.meterNumbersSpec.post enc Tryz.prog Tryz.f3 false true false false) := by
  refine returnsInHanded_of_change_and (C := Tryz.checked) (X := fun w _ => laidMetH Tryz.prog Rows.meterNumbersRow.laid w) (fun _ _ _ hh h => h.of_heap hh) own_here started (by kernel_rfl) Tryz.func3
    (ChangeSpec.witness_shaped (enc := enc) (C := Tryz.checked) (os := os) (X := fun w _ => laidMetH Tryz.prog Rows.meterNumbersRow.laid w) false (World.laidAll Tryz.prog os Rows.meterNumbersRow.laid) #[.float .f64 0, .float .f64 0, .int .i64 0] 8 (World.laidAll_os _ _ _) (laid_shaped os) (by kernel_rfl) (by kernel_rfl) (by kernel_rfl)
      (by rw [MakeChecks.laidMetH_plain _ _ _ (by kernel_rfl)]; exact laidMet_laidAll _ (laid_fits os) (laid_ifaces os))) ?_
  intro W base args ds gs before hval0 hW _ _ _ _
  have hval : ∀ (j : Nat) t v, Tryz.f3.params[j]? = some t → args[j]? = some v → Value.okWide Tryz.prog W .any base t v := hval0
  have hW' := hW
  obtain ⟨p, q, hA0, hV, rfl, hfz, hnd⟩ := hW
  have hA : DataW.TrodAll enc Tryz.prog W 0 (fun _ => true) true Tryz.f3.params.toList args.toList ds p := hA0
  rw [Tryz.params3] at hA hval
  obtain ⟨v0, v1, v2, d0, d1, d2, p0, p1, p2, rfl, rfl, rfl, h0, h1, h2⟩ := trodAll_three hA
  obtain ⟨rfl, rfl⟩ := trodVars_none hV
  obtain ⟨a, rfl, rfl, rfl, wa⟩ := open_float Tryz.underlying22 (hval 0 22 v0 rfl rfl) h0
  obtain ⟨b, rfl, rfl, rfl, wb⟩ := open_float Tryz.underlying22 (hval 1 22 v1 rfl rfl) h1
  obtain ⟨c, rfl, rfl, rfl, wc⟩ := open_int Tryz.underlying3 (hval 2 3 v2 rfl rfl) h2
  refine (plain_law (law_tup a b c (wf64 wa) (wf64 wb)) rfl rfl (w := W) (Nat.zero_le _)).mono fun e W' hen => ?_
  obtain ⟨rfl, hgr⟩ := hen
  exact ⟨_, rfl, post_true laidOut_here (by kernel_rfl) rfl rfl Tryz.underlying4 ⟨rfl, rfl, rfl⟩ hW' hgr⟩

theorem meterNumbers_holds : Rows.MeterNumbersSaid :=
  OpenClaim.holds_of_wide 3 Tryz.f3 rfl rfl rfl rfl rfl rfl rfl ⟨rfl, rfl, rfl, rfl, rfl⟩ rfl rfl rfl rfl rfl (by kernel_rfl) Tryz.func3 (by kernel_rfl)
    (of_decide_eq_true (by kernel_rfl)) (by unfold Func.isWrapper; first | (rw [if_pos (by decide +kernel)]; kernel_rfl) | (rw [if_neg (by decide +kernel)]; exact ⟨rfl, rfl⟩))
    (fun os started H enc _ => meterNumbers_lifted os started H enc)

theorem meterNumbers_card : Rows.MeterNumbersCardSaid :=
  Claim7.holds_tied_plain_at .later [] [.data, .data, .data, .data, .sentinel, .sentinel, .pinned, .pinned] true (true, "b73cb500302e129084da68bac30b9b4a1f39844c2dbea4ec96c41c82efc55d7c") true
    meterNumbers_holds (fun _ h => by cases h) (by kernel_rfl) (fun _ h => by cases h) meterNumbers_row_tie rfl ⟨rfl, rfl⟩ (by kernel_rfl) rfl
    (fun f fn hf hfn => by
      obtain rfl : f = 3 := Option.some.inj ((show Tryz.prog.funcNamed "tether/tetherlaw25.MeterNumbers" = some 3 by kernel_rfl).symm.trans hf) |>.symm
      obtain rfl : fn = Tryz.f3 := (Option.some.inj (Tryz.func3.symm.trans hfn)).symm
      exact ⟨by kernel_rfl, fun j t ht => by
        rw [Tryz.params3] at ht
        have hm : t ∈ [22, 22, 3] := by simpa using Array.mem_of_getElem? ht
        have hall : ([22, 22, 3].all fun u => !Tryz.prog.wantsStandIn u) = true := by kernel_rfl
        exact (show Tryz.prog.wantsStandIn t = false by simpa using List.all_eq_true.1 hall t hm)⟩)
    (by kernel_rfl)
#print axioms meterNumbers_card
end Go.Proofs.YtenlhojfncnlfaaGreatDoor
