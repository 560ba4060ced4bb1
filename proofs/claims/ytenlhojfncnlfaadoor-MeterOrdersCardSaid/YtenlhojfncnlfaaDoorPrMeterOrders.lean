/- MeterOrders: for every input the law returns true, and each argument reads behind the call as it read before. -/
import Derived.Test.YtenlhojfncnlfaaDoorRows
import Derived.Test.YtenlhojfncnlfaaDoorTie
import Derived.Test.YtenlhojfncnlfaaDoorCards
import Derived.Test.YtenlhojfncnlfaaDoorEvPost
import Derived.Test.YtenlhojfncnlfaaDoorSxPure
import Derived.Test.YtenlhojfncnlfaaDoorSxOrder
import Derived.LaidMore
import Derived.OpenShut
import Derived.Lay
import Derived.Laws.Cover2
import Derived.Stop.Joined
import Derived.SevenTiedAt
namespace Go.Proofs.YtenlhojfncnlfaaDoor
open Go.ChangeShapes Go.WideShapes Go.ChangeAt Go.WideMaps Go.WideElems Go.RowKit Go.Ev

theorem zerosFlat_here : zerosFlat Tryd.prog = true := by kernel_rfl
theorem mixed_here : Tryd.prog.follows .mixedOrders = true := by kernel_rfl
theorem laidOut_here : laidOutB Tryd.prog = true := by kernel_rfl
theorem own_here : ownKnob Tryd.prog.godebug = Option.none := by kernel_rfl

/-! ### the sign of a number, its rank -/

def signbitFn : List Value → Option Value
  | [.float .f64 a] => some (.bool (sgF a))
  | _ => .none
theorem signbit_run (a : Nat) : plainOut 0 ((runHR Tryd.prog 0 (plainHints [] []) 30).2 18 [.float .f64 a] (bare 0)) = some (.bool (sgF a), []) := by kernel_rfl
theorem signbit_tup (args : List Value) (v : Value) (e : signbitFn args = some v) (h : AH) : CTup Tryd.prog 0 18 args h (.ret v) h := by
  unfold signbitFn at e
  split at e
  · cases e
    exact plain_tup zerosFlat_here mixed_here (plainHints_ok Sums.Ok.nil) (signbit_run _) (fun p hp => by cases hp) rfl h
  · cases e
def rankFn : List Value → Option Value
  | [.float .f64 a] => some (.int .i64 (rankF a))
  | _ => .none
def rankProps (a : Nat) (n z s : Bool) : List Prop := (nanB a = n) :: bif n then [] else (nullB a = z) :: bif z then [sgF a = s] else []
theorem rank_run (a : Nat) (n z s : Bool) : plainOut 0 ((runHR Tryd.prog 0 (plainHints [(8, 6, .bool n), (8, 9, .bool z), (8, 12, .bool s)] [(18, signbitFn)]) 30).2 8 [.float .f64 a] (bare 0)) = some (.int .i64 (rankI n z s), rankProps a n z s) := by
  cases n <;> cases z <;> cases s <;> kernel_rfl
theorem rank_tup (args : List Value) (v : Value) (e : rankFn args = some v) (h : AH) : CTup Tryd.prog 0 8 args h (.ret v) h := by
  unfold rankFn at e
  split at e
  · rename_i a
    cases e
    refine plain_tup zerosFlat_here mixed_here (plainHints_ok (.cons signbit_tup .nil)) (rank_run a (nanB a) (nullB a) (sgF a)) ?_ rfl h
    unfold rankProps
    intro p hp
    cases h1 : nanB a <;> cases h2 : nullB a <;> rw [h1, h2] at hp <;> simp at hp <;> (try rcases hp with rfl | rfl | rfl) <;> (try rcases hp with rfl | rfl) <;> simp_all
  · cases e

/-! ### the order -/

def ri : Bool → Bool → Int
  | false, _ => 0
  | true, false => 1
  | true, true => 2
def orderFn : List Value → Option Value
  | [.float .f64 a, .float .f64 b] => some (.int .i64 (ordF a b))
  | _ => .none
def orderProps (a b : Nat) (n1 n2 l g : Bool) (r1 r2 : Int) : List Prop :=
  ((nanB a = n1) :: bif n1 then [] else [nanB b = n2]) ++ (bif n1 || n2 then [rankF a = r1, rankF b = r2] else ((cmpF a b == some .lt) = l) :: bif l then [] else ((cmpF a b == some .gt) = g) :: bif g then [] else [rankF a = r1, rankF b = r2])
theorem order_run (a b : Nat) (n1 n2 l g p1 q1 p2 q2 : Bool) : plainOut 0 ((runHR Tryd.prog 0 (plainHints [(4, 8, .bool n1), (4, 12, .bool n2), (4, 25, .bool l), (4, 29, .bool g), (4, 15, .int (ri p1 q1)), (4, 18, .int (ri p2 q2)), (4, 31, .int (ri p1 q1)), (4, 33, .int (ri p2 q2))] [(8, rankFn)]) 30).2 4 [.float .f64 a, .float .f64 b] (bare 0)) =
    some (.int .i64 (ordG n1 n2 l g (ri p1 q1) (ri p2 q2)), orderProps a b n1 n2 l g (ri p1 q1) (ri p2 q2)) := by
  cases n1 <;> cases n2 <;> cases l <;> cases g <;> cases p1 <;> cases q1 <;> cases p2 <;> cases q2 <;> kernel_rfl
theorem rankI_ri (n z s : Bool) : ∃ p q, rankI n z s = ri p q := by
  cases n <;> cases z <;> cases s <;> first | exact ⟨false, false, rfl⟩ | exact ⟨true, false, rfl⟩ | exact ⟨true, true, rfl⟩
theorem order_tup (args : List Value) (v : Value) (e : orderFn args = some v) (h : AH) : CTup Tryd.prog 0 4 args h (.ret v) h := by
  unfold orderFn at e
  split at e
  · rename_i a b
    cases e
    obtain ⟨p1, q1, e1⟩ := rankI_ri (nanB a) (nullB a) (sgF a)
    obtain ⟨p2, q2, e2⟩ := rankI_ri (nanB b) (nullB b) (sgF b)
    have e1' : rankF a = ri p1 q1 := e1
    have e2' : rankF b = ri p2 q2 := e2
    have hr := order_run a b (nanB a) (nanB b) (cmpF a b == some .lt) (cmpF a b == some .gt) p1 q1 p2 q2
    rw [← e1', ← e2'] at hr
    refine plain_tup zerosFlat_here mixed_here (plainHints_ok (.cons rank_tup .nil)) hr ?_ rfl h
    unfold orderProps
    intro p hp
    cases h1 : nanB a <;> cases h2 : nanB b <;> cases h3 : (cmpF a b == some .lt) <;> cases h4 : (cmpF a b == some .gt) <;> rw [h1, h2, h3, h4] at hp <;>
      simp only [Bool.or_false, Bool.or_true, Bool.or_self, cond_true, cond_false, List.cons_append, List.nil_append, List.mem_cons, List.not_mem_nil, or_false] at hp <;>
      (first | (rcases hp with rfl | rfl | rfl | rfl | rfl | rfl) | (rcases hp with rfl | rfl | rfl | rfl | rfl) | (rcases hp with rfl | rfl | rfl | rfl) | (rcases hp with rfl | rfl | rfl)) <;> first | rfl | assumption | trivial
  · cases e
def bitsB (a b : Nat) : Bool := (a : Int) == (b : Int)
def bitsFn : List Value → Option Value
  | [.float .f64 a, .float .f64 b] => some (.bool (bitsB a b))
  | _ => .none
theorem bits_run (a b : Nat) : plainOut 0 ((runHR Tryd.prog 0 (plainHints [] []) 30).2 5 [.float .f64 a, .float .f64 b] (bare 0)) = some (.bool (bitsB a b), []) := by kernel_rfl
theorem bits_tup (args : List Value) (v : Value) (e : bitsFn args = some v) (h : AH) : CTup Tryd.prog 0 5 args h (.ret v) h := by
  unfold bitsFn at e
  split at e
  · cases e
    exact plain_tup zerosFlat_here mixed_here (plainHints_ok Sums.Ok.nil) (bits_run _ _) (fun p hp => by cases hp) rfl h
  · cases e
def knownFn : List Value → Option Value
  | [] => some (.bool true)
  | _ => .none
theorem known_run : plainOut 0 ((runHR Tryd.prog 0 (plainHints [] []) 100).2 6 [] (bare 0)) = some (.bool true, []) := by kernel_rfl
theorem known_tup (args : List Value) (v : Value) (e : knownFn args = some v) (h : AH) : CTup Tryd.prog 0 6 args h (.ret v) h := by
  unfold knownFn at e
  split at e
  · cases e
    exact plain_tup zerosFlat_here mixed_here (plainHints_ok Sums.Ok.nil) known_run (fun p hp => by cases hp) rfl h
  · cases e

/-! ### the law -/

def sv : Bool → Bool → Int
  | false, _ => 0
  | true, false => -1
  | true, true => 1
def fits (x z w : Int) (t n1 n2 : Bool) : Bool := (decide (x = 0) == (t || n1 && n2)) && ((decide (x > 0) || decide (z > 0) || decide (w ≤ 0)) && (decide (x < 0) || decide (z < 0) || decide (w ≥ 0)))
def lawProps (a b c : Nat) (x z w : Int) (t n1 n2 : Bool) : List Prop :=
  [ordF a b = x, ordF b a = -x, ordF b c = z, ordF a c = w, ordF a a = 0, bitsB a b = t] ++ bif t then [] else (nanB a = n1) :: bif n1 then [nanB b = n2] else []
theorem law_run (a b c : Nat) (x1 x2 z1 z2 w1 w2 t n1 n2 : Bool) (hf : fits (sv x1 x2) (sv z1 z2) (sv w1 w2) t n1 n2 = true) :
    plainOut 0 ((runHR Tryd.prog 0 (plainHints [(3, 13, .int (sv x1 x2)), (3, 16, .int (-(sv x1 x2))), (3, 19, .int (sv z1 z2)), (3, 22, .int (sv w1 w2)), (3, 38, .int 0), (3, 45, .bool t), (3, 49, .bool n1), (3, 53, .bool n2)]
      [(4, orderFn), (5, bitsFn), (6, knownFn)]) 30).2 3 [.float .f64 a, .float .f64 b, .float .f64 c] (bare 0)) = some (.bool true, lawProps a b c (sv x1 x2) (sv z1 z2) (sv w1 w2) t n1 n2) := by
  cases x1 <;> cases x2 <;> cases z1 <;> cases z2 <;> cases w1 <;> cases w2 <;> cases t <;> cases n1 <;> cases n2 <;> first | exact absurd hf (by decide) | kernel_rfl
theorem sgn3_sv (u v : Int) : ∃ p q, sgn3 u v = sv p q := by
  unfold sgn3
  split
  · exact ⟨true, false, rfl⟩
  · split
    · exact ⟨true, true, rfl⟩
    · exact ⟨false, false, rfl⟩
theorem law_tup (a b c : Nat) (wa : W64 a) (wb : W64 b) (wc : W64 c) (h : AH) : CTup Tryd.prog 0 3 [.float .f64 a, .float .f64 b, .float .f64 c] h (.ret (.bool true)) h := by
  obtain ⟨K, hK⟩ := ordKey a b c
  obtain ⟨hab, iab⟩ := hK a (by simp) b (by simp) wa wb
  obtain ⟨hba, _⟩ := hK b (by simp) a (by simp) wb wa
  obtain ⟨hbc, _⟩ := hK b (by simp) c (by simp) wb wc
  obtain ⟨hac, _⟩ := hK a (by simp) c (by simp) wa wc
  obtain ⟨haa, _⟩ := hK a (by simp) a (by simp) wa wa
  obtain ⟨x1, x2, ex⟩ := sgn3_sv (K a) (K b)
  obtain ⟨z1, z2, ez⟩ := sgn3_sv (K b) (K c)
  obtain ⟨w1, w2, ew⟩ := sgn3_sv (K a) (K c)
  have hneg : sgn3 (K b) (K a) = -(sgn3 (K a) (K b)) := by unfold sgn3; repeat' split <;> omega
  have hz0 : sgn3 (K a) (K a) = 0 := by unfold sgn3; repeat' split <;> omega
  have hbits : bitsB a b = decide (a = b) := by unfold bitsB; rw [Bool.eq_iff_iff]; simp; omega
  have hfit : fits (sv x1 x2) (sv z1 z2) (sv w1 w2) (bitsB a b) (nanB a) (nanB b) = true := by
    rw [← ex, ← ez, ← ew, hbits]
    have h1 : (decide (sgn3 (K a) (K b) = 0) == (decide (a = b) || nanB a && nanB b)) = true := by
      rw [beq_iff_eq, Bool.eq_iff_iff]
      simp only [decide_eq_true_eq, Bool.or_eq_true, Bool.and_eq_true]
      rw [← iab]
      unfold sgn3
      constructor
      · intro h; repeat' split at h <;> omega
      · intro h; repeat' split <;> omega
    unfold fits
    rw [h1]
    unfold sgn3
    simp only [Bool.true_and, Bool.and_eq_true, Bool.or_eq_true, decide_eq_true_eq]
    repeat' split <;> omega
  have hr := law_run a b c x1 x2 z1 z2 w1 w2 (bitsB a b) (nanB a) (nanB b) hfit
  refine plain_tup zerosFlat_here mixed_here (plainHints_ok (.cons order_tup (.cons bits_tup (.cons known_tup .nil)))) hr ?_ rfl h
  intro p hp
  unfold lawProps at hp
  rw [← ex, ← ez, ← ew] at hp
  simp only [List.mem_append, List.mem_cons, List.not_mem_nil, or_false] at hp
  rcases hp with (rfl | rfl | rfl | rfl | rfl | rfl) | hp
  · exact hab
  · rw [hba, hneg]
  · exact hbc
  · exact hac
  · rw [haa, hz0]
  · trivial
  · cases h1 : bitsB a b <;> cases h2 : nanB a <;> rw [h1, h2] at hp <;> simp at hp <;> exact hp

theorem laid_fits (os : Os) : (World.holding Tryd.prog os ⟨#[], #[], []⟩).layFits Tryd.prog Rows.meterOrdersRow.laid [] = true := by kernel_rfl
theorem laid_ifaces (os : Os) : (World.holding Tryd.prog os ⟨#[], #[], []⟩).layIfaces Tryd.prog Rows.meterOrdersRow.laid (World.laidAll Tryd.prog os Rows.meterOrdersRow.laid) = true := by kernel_rfl
theorem laid_shaped (os : Os) : ((World.laidAll Tryd.prog os Rows.meterOrdersRow.laid).forCall (fun _ _ => 0) ⟨#[], #[.float .f64 0, .float .f64 0, .float .f64 0], []⟩).Shaped Tryd.prog := World.shaped_of_ZipB (by kernel_rfl) (by kernel_rfl)
theorem wf64 {a : Nat} (h : (Lit.float .f64 a).wf = true) : W64 a := by simpa [Lit.wf] using h

set_option maxRecDepth 100000 in
theorem meterOrders_lifted (os : Os) (started : os.Started) (H : Type) (enc : TypeId × Value → H) :
    ReturnsInHanded {} Tryd.checked os 3 .any (fun w args => (Rows.meterOrdersSpec.pre enc Tryd.prog Tryd.f3 [] false w args ∧ laidMetH Tryd.prog Rows.meterOrdersRow.laid w) ∧ sizedMet enc Tryd.prog Tryd.f3 (OpenSpec.ofChange Rows.meterOrdersSpec) false w args)
      (Rows.meterOrdersSpec.post enc Tryd.prog Tryd.f3 false true false false) := by
  refine returnsInHanded_of_change_and (C := Tryd.checked) (X := fun w _ => laidMetH Tryd.prog Rows.meterOrdersRow.laid w) (fun _ _ _ hh h => h.of_heap hh) own_here started (by kernel_rfl) Tryd.func3
    (ChangeSpec.witness_shaped (enc := enc) (C := Tryd.checked) (os := os) (X := fun w _ => laidMetH Tryd.prog Rows.meterOrdersRow.laid w) false (World.laidAll Tryd.prog os Rows.meterOrdersRow.laid) #[.float .f64 0, .float .f64 0, .float .f64 0] 8 (World.laidAll_os _ _ _) (laid_shaped os) (by kernel_rfl) (by kernel_rfl) (by kernel_rfl)
      (by rw [MakeChecks.laidMetH_plain _ _ _ (by kernel_rfl)]; exact laidMet_laidAll _ (laid_fits os) (laid_ifaces os))) ?_
  intro W base args ds gs before hval0 hW _ _ _ _
  have hval : ∀ (j : Nat) t v, Tryd.f3.params[j]? = some t → args[j]? = some v → Value.okWide Tryd.prog W .any base t v := hval0
  have hW' := hW
  obtain ⟨p, q, hA0, hV, rfl, hfz, hnd⟩ := hW
  have hA : DataW.TrodAll enc Tryd.prog W 0 (fun _ => true) true Tryd.f3.params.toList args.toList ds p := hA0
  rw [Tryd.params3] at hA hval
  obtain ⟨v0, v1, v2, d0, d1, d2, p0, p1, p2, rfl, rfl, rfl, h0, h1, h2⟩ := trodAll_three hA
  obtain ⟨rfl, rfl⟩ := trodVars_none hV
  obtain ⟨a, rfl, rfl, rfl, wa⟩ := open_float Tryd.underlying22 (hval 0 22 v0 rfl rfl) h0
  obtain ⟨b, rfl, rfl, rfl, wb⟩ := open_float Tryd.underlying22 (hval 1 22 v1 rfl rfl) h1
  obtain ⟨c, rfl, rfl, rfl, wc⟩ := open_float Tryd.underlying22 (hval 2 22 v2 rfl rfl) h2
  refine (plain_law (law_tup a b c (wf64 wa) (wf64 wb) (wf64 wc)) rfl rfl (w := W) (Nat.zero_le _)).mono fun e W' hen => ?_
  obtain ⟨rfl, hgr⟩ := hen
  exact ⟨_, rfl, post_true laidOut_here (by kernel_rfl) rfl rfl Tryd.underlying4 ⟨rfl, rfl, rfl⟩ hW' hgr⟩

theorem meterOrders_holds : Rows.MeterOrdersSaid :=
  OpenClaim.holds_of_wide 3 Tryd.f3 rfl rfl rfl rfl rfl rfl rfl ⟨rfl, rfl, rfl, rfl, rfl⟩ rfl rfl rfl rfl rfl (by kernel_rfl) Tryd.func3 (by kernel_rfl)
    (of_decide_eq_true (by kernel_rfl)) (by unfold Func.isWrapper; first | (rw [if_pos (by decide +kernel)]; kernel_rfl) | (rw [if_neg (by decide +kernel)]; exact ⟨rfl, rfl⟩))
    (fun os started H enc _ => meterOrders_lifted os started H enc)

theorem meterOrders_card : Rows.MeterOrdersCardSaid :=
  Claim7.holds_tied_plain_at .later [] [.data, .data, .data, .data, .sentinel, .sentinel, .pinned, .pinned] true (true, "5acff43c4491c790ffbb12bc899c8abddb247e784c866da1a31cf37aa44d0475") true
    meterOrders_holds (fun _ h => by cases h) (by kernel_rfl) (fun _ h => by cases h) meterOrders_row_tie rfl ⟨rfl, rfl⟩ (by kernel_rfl) rfl
    (fun f fn hf hfn => by
      obtain rfl : f = 3 := Option.some.inj ((show Tryd.prog.funcNamed "tether/tetherlaw25.MeterOrders" = some 3 by kernel_rfl).symm.trans hf) |>.symm
      obtain rfl : fn = Tryd.f3 := (Option.some.inj (Tryd.func3.symm.trans hfn)).symm
      exact ⟨by kernel_rfl, fun j t ht => by
        rw [Tryd.params3] at ht
        have hm : t ∈ [22, 22, 22] := by simpa using Array.mem_of_getElem? ht
        have hall : ([22, 22, 22].all fun u => !Tryd.prog.wantsStandIn u) = true := by kernel_rfl
        exact (show Tryd.prog.wantsStandIn t = false by simpa using List.all_eq_true.1 hall t hm)⟩)
    (by kernel_rfl)
#print axioms meterOrders_card
end Go.Proofs.YtenlhojfncnlfaaDoor
