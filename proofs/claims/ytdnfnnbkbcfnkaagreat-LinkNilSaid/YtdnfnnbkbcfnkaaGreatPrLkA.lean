/- Link: what there is not: the whole run. -/
import Derived.Test.YtdnfnnbkbcfnkaaGreatProg
import Derived.Test.YtdnfnnbkbcfnkaaGreatKit10
import Derived.Test.YtdnfnnbkbcfnkaaGreatKit5
namespace Go.Proofs.YtdnfnnbkbcfnkaaGreat
open Go Go.RowKit Go.Ev
theorem zerosFlat_here : zerosFlat Tryz.prog = true := by kernel_rfl
theorem mixed_here : Tryz.prog.follows .mixedOrders = true := by kernel_rfl
def knownFn : List Value → Option Value
  | [] => some (.bool true)
  | _ => .none
set_option maxRecDepth 100000 in
theorem known_eval : evalOut 0 ((run Tryz.prog 0 (checked 0 (special Tryz.prog)) 400).2.1 21 [] (bare 0)) = some (.bool true) := by kernel_rfl
theorem known_tup (args : List Value) (v : Value) (e : knownFn args = some v) (h : AH) : CTup Tryz.prog 0 21 args h (.ret v) h := by
  unfold knownFn at e
  split at e
  · cases e
    exact eval_tup zerosFlat_here mixed_here known_eval rfl h
  · cases e
noncomputable abbrev lkH (ops : OpHints) : Hints := rowHints (P := Tryz.prog) ops [(21, knownFn)] [] []
theorem lkH_ok (ops : OpHints) : (lkH ops).Ok Tryz.prog 0 := rowHints_ok (.cons known_tup .nil) .nil
abbrev pSl (n c : Nat) : Value := .slice (some ⟨0, 0, none⟩) n c
abbrev hS (cs : List Value) (p q r : Bool) : OpHints := [(9, 12, .bool p), (9, 15, .op ixRule), (9, 16, ldB cs), (9, 18, .bool q), (9, 22, .bool p), (9, 25, .op ixRule), (9, 26, ldB cs), (9, 28, .bool r)]
theorem l_nil (x : Int) :
    callOut 0 ((runHR Tryz.prog 0 (lkH []) 100).2 3 [.int .i64 x, .slice none 0 0] (Go.Ev.bare 0)) =
    some (.bool true, []) := by kernel_rfl
abbrev inB (cs : List Value) (n : Nat) (k : Int) (q : Bool) : List Prop := [decide ((n : Int) > 0) = true, (0 : Int) ≤ 0 ∧ (0 : Int) < (n : Int), nth cs 0 = some (.int .u8 (byteAt cs 0)), ((byteAt cs 0).fdiv (2 ^ (4 : Nat)) == k) = q]
theorem l_full (cs : List Value) (n c : Nat) (x : Int) (q r : Bool) :
    callOut 1 ((runHR Tryz.prog 0 (lkH (hS cs true q r)) 100).2 3 [.int .i64 x, pSl n c] (rowH cs 5 1 0 false false 0)) =
    some (.bool true, inB cs n 4 q ++ inB cs n 6 r) := by
  cases q <;> cases r <;> kernel_rfl
theorem l_e (cs : List Value) (n c : Nat) (x : Int) :
    callOut 1 ((runHR Tryz.prog 0 (lkH (hS cs false false false)) 100).2 3 [.int .i64 x, pSl n c] (rowH cs 5 1 0 false false 0)) =
    some (.bool true, [decide ((n : Int) > 0) = false, decide ((n : Int) > 0) = false]) := by kernel_rfl
theorem All.append {ps qs : List Prop} (h : All ps) (h' : All qs) : All (ps ++ qs) := fun p hp => (List.mem_append.1 hp).elim (h p) (h' p)
theorem All.nil : All [] := fun _ h => (by cases h)
theorem All.cons {p : Prop} {ps : List Prop} (h : p) (h' : All ps) : All (p :: ps) := fun q hq => by
  rcases List.mem_cons.1 hq with rfl | hq
  · exact h
  · exact h' q hq
theorem link_nil {W : World} (x : Int) : Calls Tryz.prog 3 #[.int .i64 x, .slice none 0 0] W fun e W' => e = .returned (.bool true) ∧ Below W.heap.size W W' :=
  call_came (e := 5) (rows := []) zerosFlat_here mixed_here (lkH_ok _) (l_nil x) All.nil (wf_bare 0) rfl rfl (fun id h => absurd h (Nat.not_lt_zero _)) (fun r hr => by cases hr) (.cons (VR.flat _ rfl) (.cons (.sliceNil 0 0) .nil))
theorem link_row {W : World} {zs : List Int} {ad : Addr} {n c : Nat} (x : Int) (hn : n ≤ zs.length) (ca : Came W (u8L zs) ad) :
    Calls Tryz.prog 3 #[.int .i64 x, .slice (some ad) n c] W fun e W' => e = .returned (.bool true) ∧ Below W.heap.size W W' := by
  rcases Nat.eq_zero_or_pos n with rfl | h0
  · exact call_came (e := 5) (rows := [(u8L zs, ad)]) zerosFlat_here mixed_here (lkH_ok _) (l_e (u8L zs) 0 c x) (All.cons (by simp) (All.cons (by simp) All.nil)) (rowH_wf ..) rfl rfl (fun id h => cameH_get _ _ ad id h) (fun r hr => by obtain rfl := List.mem_singleton.1 hr; exact ca)
      (.cons (VR.flat _ rfl) (.cons (came_slice (id := 0) (r := (u8L zs, ad)) rfl ca.spot 0 c) .nil))
  · have hz : nth (u8L zs) 0 = some (.int .u8 (byteAt (u8L zs) 0)) := by
      cases zs with
      | nil => simp at hn; omega
      | cons z zs => rfl
    have hp : ∀ k q, ((byteAt (u8L zs) 0).fdiv (2 ^ (4 : Nat)) == k) = q → All (inB (u8L zs) n k q) := fun k q hq => All.cons (by simp; omega) (All.cons ⟨by omega, by omega⟩ (All.cons hz (All.cons hq All.nil)))
    exact call_came (e := 5) (rows := [(u8L zs, ad)]) zerosFlat_here mixed_here (lkH_ok _) (l_full (u8L zs) n c x _ _) (All.append (hp 4 _ rfl) (hp 6 _ rfl)) (rowH_wf ..) rfl rfl (fun id h => cameH_get _ _ ad id h) (fun r hr => by obtain rfl := List.mem_singleton.1 hr; exact ca)
      (.cons (VR.flat _ rfl) (.cons (came_slice (id := 0) (r := (u8L zs, ad)) rfl ca.spot n c) .nil))
end Go.Proofs.YtdnfnnbkbcfnkaaGreat
