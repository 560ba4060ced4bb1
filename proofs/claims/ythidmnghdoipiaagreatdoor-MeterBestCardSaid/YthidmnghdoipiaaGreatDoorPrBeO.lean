/- Meter: the first and the last one: the order. -/
import Derived.Test.YthidmnghdoipiaaGreatDoorPrMpA
namespace Go.Proofs.YthidmnghdoipiaaGreatDoor
open Go Go.RowKit Go.Ev
/-! ### the sign of a number, its rank -/

def signbitFn : List Value → Option Value
  | [.float .f64 a] => some (.bool (sgF a))
  | _ => .none
theorem signbit_run (a : Nat) : plainOut 0 ((runHR Tryz.prog 0 (plainHints [] []) 30).2 51 [.float .f64 a] (bare 0)) = some (.bool (sgF a), []) := by kernel_rfl
theorem signbit_tup (args : List Value) (v : Value) (e : signbitFn args = some v) (h : AH) : CTup Tryz.prog 0 51 args h (.ret v) h := by
  unfold signbitFn at e
  split at e
  · cases e
    exact plain_tup zerosFlat_here mixed_here (plainHints_ok Sums.Ok.nil) (signbit_run _) (fun p hp => by cases hp) rfl h
  · cases e
def rankFn : List Value → Option Value
  | [.float .f64 a] => some (.int .i64 (rankF a))
  | _ => .none
def rankProps (a : Nat) (n z s : Bool) : List Prop := (nanB a = n) :: bif n then [] else (nullB a = z) :: bif z then [sgF a = s] else []
theorem rank_run (a : Nat) (n z s : Bool) : plainOut 0 ((runHR Tryz.prog 0 (plainHints [(44, 6, .bool n), (44, 9, .bool z), (44, 12, .bool s)] [(51, signbitFn)]) 30).2 44 [.float .f64 a] (bare 0)) = some (.int .i64 (rankI n z s), rankProps a n z s) := by
  cases n <;> cases z <;> cases s <;> kernel_rfl
theorem rank_tup (args : List Value) (v : Value) (e : rankFn args = some v) (h : AH) : CTup Tryz.prog 0 44 args h (.ret v) h := by
  unfold rankFn at e
  split at e
  · rename_i a
    cases e
    refine plain_tup zerosFlat_here mixed_here (plainHints_ok (.cons signbit_tup .nil)) (rank_run a (nanB a) (nullB a) (sgF a)) ?_ rfl h
    unfold rankProps
    intro p hp
    cases h1 : nanB a <;> cases h2 : nullB a <;> rw [h1, h2] at hp <;> simp at hp <;> (try rcases hp with rfl | rfl | rfl) <;> (try rcases hp with rfl | rfl) <;> simp_all
  · cases e

/-! ### the order -/

def ri : Bool → Bool → Int
  | false, _ => 0
  | true, false => 1
  | true, true => 2
def orderFn : List Value → Option Value
  | [.float .f64 a, .float .f64 b] => some (.int .i64 (ordF a b))
  | _ => .none
def orderProps (a b : Nat) (n1 n2 l g : Bool) (r1 r2 : Int) : List Prop :=
  ((nanB a = n1) :: bif n1 then [] else [nanB b = n2]) ++ (bif n1 || n2 then [rankF a = r1, rankF b = r2] else ((cmpF a b == some .lt) = l) :: bif l then [] else ((cmpF a b == some .gt) = g) :: bif g then [] else [rankF a = r1, rankF b = r2])
theorem order_run (a b : Nat) (n1 n2 l g p1 q1 p2 q2 : Bool) : plainOut 0 ((runHR Tryz.prog 0 (plainHints [(19, 8, .bool n1), (19, 12, .bool n2), (19, 25, .bool l), (19, 29, .bool g), (19, 15, .int (ri p1 q1)), (19, 18, .int (ri p2 q2)), (19, 31, .int (ri p1 q1)), (19, 33, .int (ri p2 q2))] [(44, rankFn)]) 30).2 19 [.float .f64 a, .float .f64 b] (bare 0)) =
    some (.int .i64 (ordG n1 n2 l g (ri p1 q1) (ri p2 q2)), orderProps a b n1 n2 l g (ri p1 q1) (ri p2 q2)) := by
  cases n1 <;> cases n2 <;> cases l <;> cases g <;> cases p1 <;> cases q1 <;> cases p2 <;> cases q2 <;> kernel_rfl
theorem rankI_ri (n z s : Bool) : ∃ p q, rankI n z s = ri p q := by
  cases n <;> cases z <;> cases s <;> first | exact ⟨false, false, rfl⟩ | exact ⟨true, false, rfl⟩ | exact ⟨true, true, rfl⟩
theorem order_tup (args : List Value) (v : Value) (e : orderFn args = some v) (h : AH) : CTup Tryz.prog 0 19 args h (.ret v) h := by
  unfold orderFn at e
  split at e
  · rename_i a b
    cases e
    obtain ⟨p1, q1, e1⟩ := rankI_ri (nanB a) (nullB a) (sgF a)
    obtain ⟨p2, q2, e2⟩ := rankI_ri (nanB b) (nullB b) (sgF b)
    have e1' : rankF a = ri p1 q1 := e1
    have e2' : rankF b = ri p2 q2 := e2
    have hr := order_run a b (nanB a) (nanB b) (cmpF a b == some .lt) (cmpF a b == some .gt) p1 q1 p2 q2
    rw [← e1', ← e2'] at hr
    refine plain_tup zerosFlat_here mixed_here (plainHints_ok (.cons rank_tup .nil)) hr ?_ rfl h
    unfold orderProps
    intro p hp
    cases h1 : nanB a <;> cases h2 : nanB b <;> cases h3 : (cmpF a b == some .lt) <;> cases h4 : (cmpF a b == some .gt) <;> rw [h1, h2, h3, h4] at hp <;>
      simp only [Bool.or_false, Bool.or_true, Bool.or_self, cond_true, cond_false, List.cons_append, List.nil_append, List.mem_cons, List.not_mem_nil, or_false] at hp <;>
      (first | (rcases hp with rfl | rfl | rfl | rfl | rfl | rfl) | (rcases hp with rfl | rfl | rfl | rfl | rfl) | (rcases hp with rfl | rfl | rfl | rfl) | (rcases hp with rfl | rfl | rfl)) <;> first | rfl | assumption | trivial
  · cases e
def bitsB (a b : Nat) : Bool := (a : Int) == (b : Int)
def bitsFn : List Value → Option Value
  | [.float .f64 a, .float .f64 b] => some (.bool (bitsB a b))
  | _ => .none
theorem bits_run (a b : Nat) : plainOut 0 ((runHR Tryz.prog 0 (plainHints [] []) 30).2 18 [.float .f64 a, .float .f64 b] (bare 0)) = some (.bool (bitsB a b), []) := by kernel_rfl
theorem bits_tup (args : List Value) (v : Value) (e : bitsFn args = some v) (h : AH) : CTup Tryz.prog 0 18 args h (.ret v) h := by
  unfold bitsFn at e
  split at e
  · cases e
    exact plain_tup zerosFlat_here mixed_here (plainHints_ok Sums.Ok.nil) (bits_run _ _) (fun p hp => by cases hp) rfl h
  · cases e
def refProps (a b : Nat) (n1 n2 l g s1 s2 : Bool) : List Prop :=
  ((nanB a = n1) :: bif n1 then [nanB b = n2] else []) ++ bif n1 && n2 then [] else (nanB a = n1) :: bif n1 then [] else (nanB b = n2) :: bif n2 then [] else ((cmpF a b == some .lt) = l) :: bif l then [] else ((cmpF a b == some .gt) = g) :: bif g then [] else
    ((sgF a = s1) :: bif s1 then [sgF b = s2] else []) ++ bif s1 && !s2 then [] else (sgF b = s2) :: bif s2 then [sgF a = s1] else []
theorem ref_run (a b : Nat) (n1 n2 l g s1 s2 : Bool) : plainOut 0 ((runHR Tryz.prog 0 (plainHints [(40, 8, .bool n1), (40, 12, .bool n2), (40, 17, .bool n1), (40, 21, .bool n2), (40, 25, .bool l), (40, 29, .bool g), (40, 32, .bool s1), (40, 35, .bool s2), (40, 40, .bool s2), (40, 43, .bool s1)] [(51, signbitFn)]) 30).2 40 [.float .f64 a, .float .f64 b] (bare 0)) =
    some (.int .i64 (refG n1 n2 l g s1 s2), refProps a b n1 n2 l g s1 s2) := by
  cases n1 <;> cases n2 <;> cases l <;> cases g <;> cases s1 <;> cases s2 <;> kernel_rfl
def refFn : List Value → Option Value
  | [.float .f64 a, .float .f64 b] => some (.int .i64 (refF a b))
  | _ => .none
theorem ref_tup (args : List Value) (v : Value) (e : refFn args = some v) (h : AH) : CTup Tryz.prog 0 40 args h (.ret v) h := by
  unfold refFn at e
  split at e
  · rename_i a b
    cases e
    refine plain_tup zerosFlat_here mixed_here (plainHints_ok (.cons signbit_tup .nil)) (ref_run a b (nanB a) (nanB b) (cmpF a b == some .lt) (cmpF a b == some .gt) (sgF a) (sgF b)) ?_ rfl h
    unfold refProps
    intro p hp
    cases h1 : nanB a <;> cases h2 : nanB b <;> cases h3 : (cmpF a b == some .lt) <;> cases h4 : (cmpF a b == some .gt) <;> cases h5 : sgF a <;> cases h6 : sgF b <;> rw [h1, h2, h3, h4, h5, h6] at hp <;>
      simp only [Bool.and_false, Bool.and_true, Bool.and_self, Bool.not_true, Bool.not_false, cond_true, cond_false, List.cons_append, List.nil_append, List.mem_cons, List.not_mem_nil, or_false] at hp <;>
      (repeat' (first | (rcases hp with rfl | hp) | (subst hp))) <;> first | rfl | assumption | trivial
  · cases e

end Go.Proofs.YthidmnghdoipiaaGreatDoor
