/- Meter: the first and the last one: the law's ways. -/
import Derived.Test.YthidmnghdoipiaaGreatDoorPrBeG
namespace Go.Proofs.YthidmnghdoipiaaGreatDoor
open Go Go.RowKit Go.Ev
def nats (cs : List Value) : List Nat := cs.map fun v => match v with
  | .float _ x => x
  | _ => 0
def rowP (cs : List Value) (n c : Nat) : List Prop := [cs = fl (nats cs), n ≤ cs.length, n * 8 ≤ 140737488355328, 0 < c ∨ n = 0]
def bestFn (w : Bool) : RowFn := fun front cs _ off n c rest => match front, off, rest with
  | [], 0, [] => some (pairV (bestR w (nats cs) n), rowP cs n c)
  | _, _, _ => none
def refRFn : RowFn := fun front cs _ off n c rest => match front, off, rest with
  | [], 0, [.int .i64 i] => some (pairV (rK (decide (i = 1)) (nats cs) n), (i = 1 ∨ i = -1) :: rowP cs n c)
  | _, _, _ => none
def bestNFn : List Value → Option Value
  | [.slice none 0 0] => some (pairV (qnan, false))
  | _ => .none
def refNFn : List Value → Option Value
  | [.slice none 0 0, .int .i64 i] => bif decide (i = 1) then some (pairV (qnan, false)) else bif decide (i = -1) then some (pairV (qnan, false)) else .none
  | _ => .none
theorem bestN_tup (args : List Value) (v : Value) (e : bestNFn args = some v) (h : AH) : CTup Tryz.prog 0 15 args h (.ret v) h := by
  unfold bestNFn at e
  split at e
  · cases e
    exact ctup_of_calls rfl rfl (fun w => best_nil) h
  · cases e
theorem worstN_tup (args : List Value) (v : Value) (e : bestNFn args = some v) (h : AH) : CTup Tryz.prog 0 17 args h (.ret v) h := by
  unfold bestNFn at e
  split at e
  · cases e
    exact ctup_of_calls rfl rfl (fun w => worst_nil) h
  · cases e
theorem refN_tup (args : List Value) (v : Value) (e : refNFn args = some v) (h : AH) : CTup Tryz.prog 0 16 args h (.ret v) h := by
  unfold refNFn at e
  split at e
  · rename_i i
    by_cases h1 : i = 1
    · subst h1
      cases e
      exact ctup_of_calls rfl rfl (fun w => ref_nil true) h
    · rw [decide_eq_false h1] at e
      by_cases h2 : i = -1
      · subst h2
        cases e
        exact ctup_of_calls rfl rfl (fun w => ref_nil false) h
      · rw [decide_eq_false h2] at e
        cases e
  · cases e
theorem rowP_use {cs : List Value} {n c : Nat} {ps : List Prop} (h : All (ps ++ rowP cs n c)) : cs = fl (nats cs) ∧ n ≤ (nats cs).length ∧ n * 8 ≤ 140737488355328 ∧ (0 < c ∨ n = 0) := by
  have h1 : cs = fl (nats cs) := h _ (by simp [rowP])
  have h2 : n ≤ cs.length := h _ (by simp [rowP])
  refine ⟨h1, ?_, h _ (by simp [rowP]), h _ (by simp [rowP])⟩
  unfold nats
  rw [List.length_map]; exact h2
theorem bestR_zero (w : Bool) (xs : List Nat) : bestR w xs 0 = bestR w [] 0 := by
  have h : ∀ xs : List Nat, numsT xs 0 = [] := fun xs => by unfold numsT; simp
  unfold bestR
  rw [h, h]
theorem best_row : RowOk Tryz.prog 15 (bestFn false) := by
  intro front cs e lo hi ex st off n c rest v pre hf hp h id hg
  unfold bestFn at hf
  split at hf
  · cases hf
    obtain ⟨h1, h2, h3, h4⟩ := rowP_use (ps := []) hp
    rcases h4 with h4 | rfl
    · exact ctup_row_of_calls (front := []) (rest := []) rfl rfl rfl (by rw [h1]; exact fl_flat _) (by rw [h1]; exact fl_one _) h4 (fun W a c' ca _ => by
        rw [h1] at ca
        exact best_calls h2 h3 ca) hg
    · exact ctup_none_of_calls (front := []) (rest := []) rfl rfl rfl (by rw [h1]; exact fl_flat _) (fun W a c' ca _ => by
        rw [bestR_zero]
        exact best_calls (xs := []) (Nat.le_refl 0) (by omega) ca) hg
  · cases hf
theorem worst_row : RowOk Tryz.prog 17 (bestFn true) := by
  intro front cs e lo hi ex st off n c rest v pre hf hp h id hg
  unfold bestFn at hf
  split at hf
  · cases hf
    obtain ⟨h1, h2, h3, h4⟩ := rowP_use (ps := []) hp
    rcases h4 with h4 | rfl
    · exact ctup_row_of_calls (front := []) (rest := []) rfl rfl rfl (by rw [h1]; exact fl_flat _) (by rw [h1]; exact fl_one _) h4 (fun W a c' ca _ => by
        rw [h1] at ca
        exact worst_calls h2 h3 ca) hg
    · exact ctup_none_of_calls (front := []) (rest := []) rfl rfl rfl (by rw [h1]; exact fl_flat _) (fun W a c' ca _ => by
        rw [bestR_zero]
        exact worst_calls (xs := []) (Nat.le_refl 0) (by omega) ca) hg
  · cases hf
theorem ref_row : RowOk Tryz.prog 16 refRFn := by
  intro front cs e lo hi ex st off n c rest v pre hf hp h id hg
  unfold refRFn at hf
  split at hf
  · rename_i i
    cases hf
    obtain ⟨h1, h2, h3, h4⟩ := rowP_use (ps := [i = 1 ∨ i = -1]) hp
    have hi : i = 1 ∨ i = -1 := hp _ (by simp)
    have hs : i = sgnV (decide (i = 1)) := by rcases hi with rfl | rfl <;> rfl
    rcases h4 with h4 | rfl
    · refine ctup_row_of_calls (front := []) (rest := [.int .i64 i]) rfl rfl rfl (by rw [h1]; exact fl_flat _) (by rw [h1]; exact fl_one _) h4 (fun W a c' ca _ => ?_) hg
      rw [h1] at ca
      have := ref_calls (c := c') (decide (i = 1)) h2 (by omega) ca
      rw [← hs] at this
      exact this
    · refine ctup_none_of_calls (front := []) (rest := [.int .i64 i]) rfl rfl rfl (by rw [h1]; exact fl_flat _) (fun W a c' ca _ => ?_) hg
      have := ref_calls (xs := []) (c := c') (decide (i = 1)) (Nat.le_refl 0) (by omega) ca
      rw [← hs] at this
      exact this
  · cases hf
def knownFn : List Value → Option Value
  | [] => some (.bool true)
  | _ => .none
theorem known_run : plainOut 0 ((runHR Tryz.prog 0 (plainHints [] []) 100).2 14 [] (bare 0)) = some (.bool true, []) := by kernel_rfl
theorem known_tup (args : List Value) (v : Value) (e : knownFn args = some v) (h : AH) : CTup Tryz.prog 0 14 args h (.ret v) h := by
  unfold knownFn at e
  split at e
  · cases e
    exact plain_tup zerosFlat_here mixed_here (plainHints_ok Sums.Ok.nil) known_run (fun p hp => by cases hp) rfl h
  · cases e
abbrev beSums : Sums := [(14, knownFn), (18, bitsFn), (19, orderFn), (15, bestNFn), (17, bestNFn), (16, refNFn)]
abbrev beRows : RowSums := [(15, bestFn false), (17, bestFn true), (16, refRFn)]
noncomputable abbrev beH (ops : OpHints) : Hints := rowHints (P := Tryz.prog) ops beSums beRows []
theorem beH_ok (ops : OpHints) : (beH ops).Ok Tryz.prog 0 :=
  rowHints_ok (.cons known_tup (.cons bits_tup (.cons order_tup (.cons bestN_tup (.cons worstN_tup (.cons refN_tup .nil)))))) (.cons best_row (.cons worst_row (.cons ref_row .nil)))
noncomputable def bodyL : Code := (Tryz.f4.body).getD .skip
noncomputable def preL : Code := match splitSeq 8 bodyL with
  | some (p, _) => p
  | none => .skip
noncomputable def restL : Code := match splitSeq 8 bodyL with
  | some (_, r) => r
  | none => .skip
noncomputable def loopL : Code := match restL with
  | .seq (.seq _ (.block _ (.loop b))) _ => b
  | _ => .skip
noncomputable def initL : Code := match restL with
  | .seq (.seq a _) _ => a
  | _ => .skip
noncomputable def tailL : Code := match restL with
  | .seq _ t => t
  | _ => .skip
theorem splitL : splitSeq 8 bodyL = some (preL, restL) := by kernel_rfl
theorem restL_eq : restL = .seq (.seq initL (.block 0 (.loop loopL))) tailL := by kernel_rfl
theorem f4_at : Tryz.prog.funcs[4]? = some Tryz.f4 := by kernel_rfl
theorem f4_body : Tryz.f4.body = some bodyL := by kernel_rfl
abbrev hPre (ap : OpRule) : OpHints := [(4, 20, .op ap), (4, 43, .bool true), (4, 48, .bool false), (4, 53, .bool true), (4, 59, .bool false)]
abbrev bX (w : Bool) (cs : List Value) (n : Nat) : Nat × Bool := bestR w (nats cs) n
def sidesP (own cs : List Value) (n : Nat) : List Prop := [bitsB (bX false own n).1 (rK false (nats cs) n).1 = true, (!(bX false own n).2 == (rK false (nats cs) n).2) = false, bitsB (bX true own n).1 (rK true (nats cs) n).1 = true, (!(bX true own n).2 == (rK true (nats cs) n).2) = false]
def preP (cs : List Value) (n c : Nat) : List Prop :=
  [0 < n, n ≤ 140737488355328, n * 8 ≤ 140737488355328, 0 + n ≤ cs.length, (takeL cs 0 n).all oneCell = true] ++ (rowP (takeL cs 0 n) n n ++ (((-1 : Int) = 1 ∨ (-1 : Int) = -1) :: rowP cs n c ++ (rowP (takeL cs 0 n) n n ++ (((1 : Int) = 1 ∨ (1 : Int) = -1) :: rowP cs n c ++ sidesP (takeL cs 0 n) cs n))))
theorem l_pre (cs : List Value) (n c : Nat) (f : Fr) :
    roundOutH [0, 3, 4, 5, 8, 12] [0, 1] ((runHR Tryz.prog 0 (beH (hPre apNilWRule)) 100).1 4 preL (canonF 116 [(0, pSl n c)] f) (hpOf [viewF cs])) =
    some (.normal, [pSl n c, pK 1 n n, fV (bX false (takeL cs 0 n) n).1, .bool (bX false (takeL cs 0 n) n).2, fV (bX true (takeL cs 0 n) n).1, nilS], 116, (2, 3, 0), [viewF cs, rowF (takeL cs 0 n)], preP cs n c) := by kernel_rfl
abbrev hEmp : OpHints := [(4, 43, .bool true), (4, 48, .bool false), (4, 53, .bool true), (4, 59, .bool false)]
def emptyP (cs : List Value) (c : Nat) : List Prop :=
  ((-1 : Int) = 1 ∨ (-1 : Int) = -1) :: rowP cs 0 c ++ (((1 : Int) = 1 ∨ (1 : Int) = -1) :: rowP cs 0 c ++ [bitsB qnan qnan = true, (!false == false) = false, bitsB qnan qnan = true, (!false == false) = false, bitsB qnan qnan = true, bitsB qnan qnan = true])
theorem l_empty (cs : List Value) (c : Nat) :
    callOut 1 ((runHR Tryz.prog 0 (beH (hEmp ++ [(4, 97, .bool true), (4, 101, .bool true)])) 100).2 4 [pSl 0 c] (rowH cs 37 1 0 false false 0)) =
    some (.bool true, emptyP cs c) := by kernel_rfl
theorem l_nil : callOut 0 ((runHR Tryz.prog 0 (beH []) 100).2 4 [nilS] (Go.Ev.bare 0)) = some (.bool true, []) := by kernel_rfl
abbrev liveA (n c : Nat) (own : Value) (a b : Nat) (ok : Bool) : List (Nat × Value) := [(0, pSl n c), (3, own), (4, fV a), (5, .bool ok), (8, fV b), (12, nilS)]
abbrev liveB (n c : Nat) (own : Value) (a b : Nat) (ok : Bool) (back : Value) (i : Int) : List (Nat × Value) := [(0, pSl n c), (3, own), (4, fV a), (5, .bool ok), (8, fV b), (12, back), (13, .int .i64 i)]
abbrev slB : List Nat := [0, 3, 4, 5, 8, 12, 13]
abbrev vsB (n c : Nat) (own : Value) (a b : Nat) (ok : Bool) (back : Value) (i : Int) : List Value := [pSl n c, own, fV a, .bool ok, fV b, back, .int .i64 i]
theorem l_init (cs own : List Value) (n c a b : Nat) (ok : Bool) (f : Fr) :
    roundOutH slB [0, 1] ((runHR Tryz.prog 0 (beH [(4, 63, .int ((n : Int) - 1))]) 100).1 4 initL (canonF 116 (liveA n c (pK 1 n n) a b ok) f) (hpOf [viewF cs, rowF own])) =
    some (.normal, vsB n c (pK 1 n n) a b ok nilS ((n : Int) - 1), 116, (2, 0, 0), [viewF cs, rowF own], [IntKind.i64.wrap ((n : Int) - 1) = (n : Int) - 1]) := by kernel_rfl
abbrev hLo (cs own : List Value) (i : Int) (ap : OpRule) : OpHints := [(4, 65, .bool true), (4, 70, .op ixRule), (4, 71, ldF own), (4, 74, .op ixRule), (4, 75, ldF cs), (4, 76, .bool true), (4, 81, .op ixRule), (4, 82, ldF cs), (4, 84, .op ap), (4, 67, .int (i - 1))]
def loP (cs own : List Value) (n : Nat) (i : Int) : List Prop := (decide (i ≥ 0) = true) :: (inP own n i ++ (inP cs n i ++ ((bitsB (fltAt own (at1 i)) (fltAt cs (at1 i)) = true) :: inP cs n i)))
theorem l_first (cs own : List Value) (n c a b : Nat) (ok : Bool) (i : Int) (f : Fr) :
    roundOutH slB [0, 1, 2, 3] ((runHR Tryz.prog 0 (beH (hLo cs own i apNilWRule)) 100).1 4 loopL (canonF 116 (liveB n c (pK 1 n n) a b ok nilS i) f) (hpOf [viewF cs, rowF own])) =
    some (.normal, vsB n c (pK 1 n n) a b ok (pK 3 1 1) (i - 1), 116, (4, 7, 0), [viewF cs, rowF own, oneF' (fltAt cs (at1 i)), rowF (takeL [Value.float .f64 (fltAt cs (at1 i))] 0 1)], loP cs own n i ++ (apNilP (fltAt cs (at1 i)) ++ [IntKind.i64.wrap (i - 1) = i - 1])) := by kernel_rfl
theorem l_next (cs own d : List Value) (n c q a b : Nat) (ok : Bool) (i : Int) (f : Fr) :
    roundOutH slB [0, 1, 2, 3, 4] ((runHR Tryz.prog 0 (beH (hLo cs own i apWRule)) 100).1 4 loopL (canonF 116 (liveB n c (pK 1 n n) a b ok (pK 2 q q) i) f) (hpOf [viewF cs, rowF own, rowF d])) =
    some (.normal, vsB n c (pK 1 n n) a b ok (pK 4 (q + 1) (q + 1)) (i - 1), 116, (5, 15, 4), [viewF cs, rowF own, none, oneF' (fltAt cs (at1 i)), rowF (takeL d 0 q ++ takeL [Value.float .f64 (fltAt cs (at1 i))] 0 1)], loP cs own n i ++ (apP d q (fltAt cs (at1 i)) ++ [IntKind.i64.wrap (i - 1) = i - 1])) := by kernel_rfl
theorem l_end (cs own d : List Value) (n c q a b : Nat) (ok : Bool) (i : Int) (f : Fr) :
    roundOutH slB [0, 1, 2] ((runHR Tryz.prog 0 (beH [(4, 65, .bool false)]) 100).1 4 loopL (canonF 116 (liveB n c (pK 1 n n) a b ok (pK 2 q q) i) f) (hpOf [viewF cs, rowF own, rowF d])) =
    some (.exit 0, vsB n c (pK 1 n n) a b ok (pK 2 q q) i, 116, (3, 0, 0), [viewF cs, rowF own, rowF d], [decide (i ≥ 0) = false]) := by kernel_rfl
abbrev hTl (ok : Bool) : OpHints := [(4, 97, .bool true), (4, 101, .bool true), (4, 106, .bool (!ok)), (4, 110, .bool true)]
def tlP (d : List Value) (q a b : Nat) (ok : Bool) : List Prop := rowP d q q ++ (rowP d q q ++ ([bitsB (bX false d q).1 a = true, bitsB (bX true d q).1 b = true, (!ok) = !ok] ++ bif ok then [decide (ordF a b ≤ 0) = true] else []))
theorem l_tail (cs own d : List Value) (n c q a b : Nat) (ok : Bool) (i : Int) (f : Fr) :
    roundOutH [2] [0, 1, 2] ((runHR Tryz.prog 0 (beH (hTl ok)) 100).1 4 tailL (canonF 116 (liveB n c (pK 1 n n) a b ok (pK 2 q q) i) f) (hpOf [viewF cs, rowF own, rowF d])) =
    some (.ret, [.bool true], 116, (3, 4, 0), [viewF cs, rowF own, rowF d], tlP d q a b ok) := by
  cases ok <;> kernel_rfl
end Go.Proofs.YthidmnghdoipiaaGreatDoor
