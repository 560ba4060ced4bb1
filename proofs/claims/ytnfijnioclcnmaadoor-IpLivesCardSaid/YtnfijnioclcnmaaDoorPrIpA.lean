/- IP: numbers of two bytes, sums. -/
import Derived.Test.YtnfijnioclcnmaaDoorProg
import Derived.Test.YtnfijnioclcnmaaDoorKit4
namespace Go.Proofs.YtnfijnioclcnmaaDoor
open Go Go.RowKit Go.Ev
theorem zerosFlat_here : zerosFlat Tryd.prog = true := by kernel_rfl
theorem mixed_here : Tryd.prog.follows .mixedOrders = true := by kernel_rfl

/-! ### two -/

def twoV (cs : List Value) (off : Nat) (i : Int) : Int := byteAt cs (off + i.toNat * 1) * 256 + byteAt cs (off + (i + 1).toNat * 1)
theorem two_run (cs : List Value) (e : TypeId) (lo hi : Nat) (ex st : Bool) (off n c : Nat) (i : Int) :
    rowOut ((runHR Tryd.prog 0 (rowHints (P := Tryd.prog) [(18, 7, .op ixRule), (18, 8, ldB cs), (18, 9, .int (byteAt cs (off + i.toNat * 1))), (18, 10, .int (byteAt cs (off + i.toNat * 1) * 256)), (18, 13, .int (i + 1)), (18, 14, .op ixRule), (18, 15, ldB cs),
      (18, 16, .int (byteAt cs (off + (i + 1).toNat * 1))), (18, 17, .int (twoV cs off i))] [] [] []) 30).2 18 (.slice (some ⟨0, off, none⟩) n c :: [.int .i64 i]) (rowH cs e lo hi ex st 0)) =
    some (.int .i64 (twoV cs off i), [0 ≤ i ∧ i < (n : Int), nth cs (off + i.toNat * 1) = some (.int .u8 (byteAt cs (off + i.toNat * 1))), W64i (byteAt cs (off + i.toNat * 1)) = byteAt cs (off + i.toNat * 1),
      W64i (byteAt cs (off + i.toNat * 1) * 2 ^ 8) = byteAt cs (off + i.toNat * 1) * 256, W64i (i + 1) = i + 1,
      0 ≤ i + 1 ∧ i + 1 < (n : Int), nth cs (off + (i + 1).toNat * 1) = some (.int .u8 (byteAt cs (off + (i + 1).toNat * 1))), W64i (byteAt cs (off + (i + 1).toNat * 1)) = byteAt cs (off + (i + 1).toNat * 1),
      bor (byteAt cs (off + i.toNat * 1) * 256) (byteAt cs (off + (i + 1).toNat * 1)) = twoV cs off i]) := by kernel_rfl
def twoFn : RowFn := fun front cs _ off n _ rest => match front, rest with
  | [], [.int .i64 i] => some (.int .i64 (twoV cs off i), [Bytes cs off n ∧ 0 ≤ i ∧ i + 1 < (n : Int)])
  | _, _ => none
theorem byte_bounds {cs : List Value} {off n : Nat} (hb : Bytes cs off n) {i : Int} (h0 : 0 ≤ i) (h1 : i < (n : Int)) :
    nth cs (off + i.toNat * 1) = some (.int .u8 (byteAt cs (off + i.toNat * 1))) ∧ 0 ≤ byteAt cs (off + i.toNat * 1) ∧ byteAt cs (off + i.toNat * 1) < 256 := by
  rw [Nat.mul_one]
  have hi : i.toNat < n := by omega
  exact ⟨hb.at_ _ hi, hb.lo _ hi, hb.hi _ hi⟩
theorem twoV_bounds {cs : List Value} {off n : Nat} (hb : Bytes cs off n) {i : Int} (h0 : 0 ≤ i) (h1 : i + 1 < (n : Int)) : 0 ≤ twoV cs off i ∧ twoV cs off i < 65536 := by
  have a := byte_bounds hb h0 (by omega)
  have b := byte_bounds hb (i := i + 1) (by omega) h1
  unfold twoV
  omega
theorem two_ok : RowOk Tryd.prog 18 twoFn := by
  intro front cs e lo hi ex st off n c rest v pre hfn hp h id hg
  unfold twoFn at hfn
  split at hfn
  · rename_i i
    cases hfn
    obtain ⟨hb, h0, h1⟩ := hp _ (List.mem_singleton.2 rfl)
    obtain ⟨a1, a2, a3⟩ := byte_bounds hb h0 (by omega)
    obtain ⟨b1, b2, b3⟩ := byte_bounds hb (i := i + 1) (by omega) h1
    refine row_tup (front := []) zerosFlat_here mixed_here (rowHints_ok .nil .nil) (two_run cs e lo hi ex st off n c i) (fun p hp => ?_) rfl rfl hb.flat hg
    have hs := hb.small
    simp only [List.mem_cons, List.not_mem_nil, or_false] at hp
    rcases hp with rfl | rfl | rfl | rfl | rfl | rfl | rfl | rfl | rfl
    · omega
    · exact a1
    · exact wrap_in (by omega) (by omega)
    · have e8 : (2 : Int) ^ 8 = 256 := by decide
      rw [e8]; exact wrap_in (by omega) (by omega)
    · exact wrap_in (by omega) (by omega)
    · omega
    · exact b1
    · exact wrap_in (by omega) (by omega)
    · have e8 : (2 : Int) ^ 8 = 256 := by decide
      have := bor_add (a := byteAt cs (off + i.toNat * 1)) (b := byteAt cs (off + (i + 1).toNat * 1)) 8 a2 b2 (by rw [e8]; exact b3) (by rw [e8]; omega)
      rw [e8] at this
      exact this
  · cases hfn

/-! ### Sum -/

def stepS (s t : Int) : Int := (s + t) % 65536 + (s + t) / 65536
def sumK (cs : List Value) (off : Nat) : Nat → Int
  | 0 => 0
  | k + 1 => stepS (sumK cs off k) (twoV cs off (2 * (k : Int)))
noncomputable def sumBody : Code := unLoop (blockIn Tryd.f9 0)
def sumSl (off n c : Nat) : Value := .slice (some ⟨0, off, none⟩) n c
theorem sum_round (cs : List Value) (e : TypeId) (lo hi : Nat) (ex st : Bool) (off n c : Nat) (s i : Int) (f : Fr) :
    roundOut [0, 3, 4] ((runHR Tryd.prog 0 (rowHints (P := Tryd.prog) [(9, 6, .int (i + 1)), (9, 9, .bool true), (9, 16, .int (s + twoV cs off i)), (9, 18, .int ((s + twoV cs off i) % 65536)), (9, 20, .int ((s + twoV cs off i) / 65536)), (9, 21, .int (stepS s (twoV cs off i))), (9, 11, .int (i + 2))] [] [(18, twoFn)] []) 30).1 9 sumBody
      (canonF 44 [(0, sumSl off n c), (3, .int .i64 s), (4, .int .i64 i)] f) (rowH cs e lo hi ex st 1)) =
    some (.normal, [sumSl off n c, .int .i64 (stepS s (twoV cs off i)), .int .i64 (i + 2)], 44, rowH cs e lo hi ex st 1,
      [W64i (i + 1) = i + 1, decide (i + 1 < (n : Int)) = true, Bytes cs off n ∧ 0 ≤ i ∧ i + 1 < (n : Int), W64i (s + twoV cs off i) = s + twoV cs off i,
       band (s + twoV cs off i) 65535 = (s + twoV cs off i) % 65536, (s + twoV cs off i).fdiv (2 ^ 16) = (s + twoV cs off i) / 65536, W64i ((s + twoV cs off i) % 65536 + (s + twoV cs off i) / 65536) = stepS s (twoV cs off i), W64i (i + 2) = i + 2]) := by kernel_rfl
theorem sum_last (cs : List Value) (e : TypeId) (lo hi : Nat) (ex st : Bool) (off n c : Nat) (s i : Int) (f : Fr) :
    roundOut [0, 3, 4] ((runHR Tryd.prog 0 (rowHints (P := Tryd.prog) [(9, 6, .int (i + 1)), (9, 9, .bool false)] [] [(18, twoFn)] []) 30).1 9 sumBody
      (canonF 44 [(0, sumSl off n c), (3, .int .i64 s), (4, .int .i64 i)] f) (rowH cs e lo hi ex st 1)) =
    some (.exit 0, [sumSl off n c, .int .i64 s, .int .i64 i], 44, rowH cs e lo hi ex st 1, [W64i (i + 1) = i + 1, decide (i + 1 < (n : Int)) = false]) := by kernel_rfl
theorem stepS_bounds {s t : Int} (h0 : 0 ≤ s) (h1 : s ≤ 65535) (t0 : 0 ≤ t) (t1 : t ≤ 65535) : 0 ≤ stepS s t ∧ stepS s t ≤ 65535 := by
  unfold stepS
  omega
theorem sumK_bounds {cs : List Value} {off n : Nat} (hb : Bytes cs off n) : ∀ k : Nat, 2 * k ≤ n → 0 ≤ sumK cs off k ∧ sumK cs off k ≤ 65535
  | 0, _ => by unfold sumK; omega
  | k + 1, h => by
    have ih := sumK_bounds hb k (by omega)
    have t := twoV_bounds hb (i := 2 * (k : Int)) (by omega) (by omega)
    unfold sumK
    exact stepS_bounds ih.1 ih.2 t.1 (by omega)
theorem band16 {a : Int} (h0 : 0 ≤ a) (h1 : a < 9223372036854775808) : band a 65535 = a % 65536 := band_mask 16 (by decide) h0 h1
theorem shr16 (a : Int) : a.fdiv (2 ^ 16) = a / 65536 := by
  rw [Int.fdiv_eq_ediv_of_nonneg _ (by decide)]; rfl
def sumEntry (off n c : Nat) : List (Nat × Value) := [(0, sumSl off n c), (3, .int .i64 0), (4, .int .i64 0)]
def sumLive (cs : List Value) (off n c k : Nat) : List (Nat × Value) := [(0, sumSl off n c), (3, .int .i64 (sumK cs off k)), (4, .int .i64 (2 * (k : Int)))]
theorem sum_block (cs : List Value) (e : TypeId) (lo hi : Nat) (ex st : Bool) (off n c : Nat) (hb : Bytes cs off n) (f : Fr) (hn : f.n = 44) (hd : f.ds = []) (hl : Holds f (sumEntry off n c)) :
    ∃ f1, LTup Tryd.prog 0 (.block 0 (.loop sumBody)) f (rowH cs e lo hi ex st 0) .normal f1 (rowH cs e lo hi ex st 1) ∧ f1.n = 44 ∧ f1.ds = [] ∧ Holds f1 (sumLive cs off n c (n / 2)) := by
  have hs := hb.small
  have key := LTup.readLoop (P := Tryd.prog) (gl := 0) (D := Nat) (body := sumBody) (id := 0) (N := 44) (by decide) (rowH cs e lo hi ex st 1) (fun k => n - 2 * k) (fun k => 2 * k ≤ n) (sumLive cs off n c) (fun _ => sumLive cs off n c (n / 2))
    (fun k f hk => ?_) 0 f (Nat.zero_le _) hn hd hl
  · obtain ⟨f1, t, q⟩ := key
    exact ⟨f1, LTup.reads (rowH_marked ..) t, q⟩
  · obtain ⟨s0, s1⟩ := sumK_bounds hb k hk
    by_cases hlt : 2 * k + 1 < n
    · left
      obtain ⟨t0, t1⟩ := twoV_bounds hb (i := 2 * (k : Int)) (by omega) (by omega)
      obtain ⟨f1, t, n1, ds1, hl1⟩ := round_tup zerosFlat_here mixed_here (rowHints_ok (.nil) (.cons two_ok .nil)) (sum_round cs e lo hi ex st off n c (sumK cs off k) (2 * (k : Int)) f) (fun p hp => by
        simp only [List.mem_cons, List.not_mem_nil, or_false] at hp
        rcases hp with rfl | rfl | rfl | rfl | rfl | rfl | rfl | rfl
        · exact wrap_in (by omega) (by omega)
        · simp; omega
        · exact ⟨hb, by omega, by omega⟩
        · exact wrap_in (by omega) (by omega)
        · exact band16 (by omega) (by omega)
        · exact shr16 _
        · unfold stepS; exact wrap_in (by omega) (by omega)
        · exact wrap_in (by omega) (by omega))
      refine ⟨f1, k + 1, t, n1, ds1, ?_, by omega, by omega, rfl⟩
      obtain ⟨q0, q1, q2, _⟩ := hl1
      refine ⟨q0, q1, ?_, trivial⟩
      have : (2 * ((k + 1 : Nat) : Int)) = 2 * (k : Int) + 2 := by omega
      rw [this]; exact q2
    · right
      have hk2 : n / 2 = k := by omega
      obtain ⟨f1, t, n1, ds1, hl1⟩ := round_tup zerosFlat_here mixed_here (rowHints_ok (.nil) (.cons two_ok .nil)) (sum_last cs e lo hi ex st off n c (sumK cs off k) (2 * (k : Int)) f) (fun p hp => by
        simp only [List.mem_cons, List.not_mem_nil, or_false] at hp
        rcases hp with rfl | rfl
        · exact wrap_in (by omega) (by omega)
        · simp; omega)
      refine ⟨f1, t, n1, ds1, ?_⟩
      rw [hk2]
      obtain ⟨q0, q1, q2, _⟩ := hl1
      exact ⟨q0, q1, q2, trivial⟩
noncomputable def sumRule (cs : List Value) (e : TypeId) (lo hi : Nat) (ex st : Bool) (off n c : Nat) (hb : Bytes cs off n) : BlockRule Tryd.prog 0 :=
  ⟨0, .loop sumBody, 44, rowH cs e lo hi ex st 0, rowH cs e lo hi ex st 1, sumEntry off n c, sumLive cs off n c (n / 2), by decide, sum_block cs e lo hi ex st off n c hb⟩
def sumOut (s : Int) : Int := 65535 - s
def lastB (cs : List Value) (off n : Nat) : Int := byteAt cs (off + ((n : Int) - 1).toNat * 1)
abbrev bxor (a b : Int) : Int := IntKind.i64.wrap ((BitVec.ofInt 64 a ^^^ BitVec.ofInt 64 b).toNat : Int)
theorem sum_out {s : Int} (h0 : 0 ≤ s) (h1 : s ≤ 65535) : band (bxor (-1) s) 65535 = sumOut s := by
  have e1 : BitVec.ofInt 64 (-1) = BitVec.allOnes 64 := by decide
  have e2 : bxor (-1) s = -1 - s := by
    unfold bxor
    rw [e1, BitVec.allOnes_xor, BitVec.toNat_not, ofInt_toNat h0 (by omega)]
    have e3 : ((2 ^ 64 - 1 - s.toNat : Nat) : Int) = 18446744073709551615 - s := by
      have : (2 : Nat) ^ 64 = 18446744073709551616 := by decide
      omega
    rw [e3]
    unfold IntKind.wrap
    simp only [IntKind.signed, IntKind.bits, Bool.true_and, decide_eq_true_eq, ge_iff_le]
    have e4 : (2 : Int) ^ 64 = 18446744073709551616 := by decide
    have e5 : (2 : Int) ^ (64 - 1) = 9223372036854775808 := by decide
    rw [e4, e5]
    split <;> omega
  rw [e2]
  unfold band
  rw [BitVec.toNat_and]
  have e6 : (BitVec.ofInt 64 (-1 - s)).toNat = 18446744073709551615 - s.toNat := by
    rw [BitVec.toNat_ofInt]
    have e : ((2 ^ 64 : Nat) : Int) = 18446744073709551616 := by decide
    rw [e]; omega
  have e7 : (BitVec.ofInt 64 65535).toNat = 2 ^ 16 - 1 := by decide
  rw [e6, e7, Nat.and_two_pow_sub_one_eq_mod]
  have e8 : (((18446744073709551615 - s.toNat) % 2 ^ 16 : Nat) : Int) = 65535 - s := by
    have : (2 : Nat) ^ 16 = 65536 := by decide
    rw [this]; omega
  rw [e8]
  exact wrap_in (by omega) (by omega)
theorem sum_even (cs : List Value) (e : TypeId) (lo hi : Nat) (ex st : Bool) (off n c : Nat) (hb : Bytes cs off n) :
    rowOut ((runHR Tryd.prog 0 (rowHints (P := Tryd.prog) [(9, 25, .bool false), (9, 43, .int (sumOut (sumK cs off (n / 2))))] [] [] [(9, sumRule cs e lo hi ex st off n c hb)]) 30).2 9 (.slice (some ⟨0, off, none⟩) n c :: []) (rowH cs e lo hi ex st 0)) =
    some (.int .i64 (sumOut (sumK cs off (n / 2))), [selfB (sumRule cs e lo hi ex st off n c hb), ((n : Int).tmod 2 == 1) = false, band (bxor (-1) (sumK cs off (n / 2))) 65535 = sumOut (sumK cs off (n / 2))]) := by kernel_rfl
theorem sum_odd (cs : List Value) (e : TypeId) (lo hi : Nat) (ex st : Bool) (off n c : Nat) (hb : Bytes cs off n) :
    rowOut ((runHR Tryd.prog 0 (rowHints (P := Tryd.prog) [(9, 25, .bool true), (9, 30, .int ((n : Int) - 1)), (9, 31, .op ixRule), (9, 32, ldB cs), (9, 33, .int (lastB cs off n)), (9, 34, .int (lastB cs off n * 256)), (9, 35, .int (sumK cs off (n / 2) + lastB cs off n * 256)), (9, 37, .int ((sumK cs off (n / 2) + lastB cs off n * 256) % 65536)), (9, 39, .int ((sumK cs off (n / 2) + lastB cs off n * 256) / 65536)), (9, 40, .int (stepS (sumK cs off (n / 2)) (lastB cs off n * 256))), (9, 43, .int (sumOut (stepS (sumK cs off (n / 2)) (lastB cs off n * 256))))] [] [] [(9, sumRule cs e lo hi ex st off n c hb)]) 30).2 9 (.slice (some ⟨0, off, none⟩) n c :: []) (rowH cs e lo hi ex st 0)) =
    some (.int .i64 (sumOut (stepS (sumK cs off (n / 2)) (lastB cs off n * 256))), [selfB (sumRule cs e lo hi ex st off n c hb), ((n : Int).tmod 2 == 1) = true, W64i ((n : Int) - 1) = (n : Int) - 1, 0 ≤ (n : Int) - 1 ∧ (n : Int) - 1 < (n : Int),
      nth cs (off + ((n : Int) - 1).toNat * 1) = some (.int .u8 (byteAt cs (off + ((n : Int) - 1).toNat * 1))), W64i (lastB cs off n) = lastB cs off n, W64i (lastB cs off n * 2 ^ 8) = lastB cs off n * 256, W64i (sumK cs off (n / 2) + lastB cs off n * 256) = sumK cs off (n / 2) + lastB cs off n * 256,
      band (sumK cs off (n / 2) + lastB cs off n * 256) 65535 = (sumK cs off (n / 2) + lastB cs off n * 256) % 65536, (sumK cs off (n / 2) + lastB cs off n * 256).fdiv (2 ^ 16) = (sumK cs off (n / 2) + lastB cs off n * 256) / 65536,
      W64i ((sumK cs off (n / 2) + lastB cs off n * 256) % 65536 + (sumK cs off (n / 2) + lastB cs off n * 256) / 65536) = stepS (sumK cs off (n / 2)) (lastB cs off n * 256),
      band (bxor (-1) (stepS (sumK cs off (n / 2)) (lastB cs off n * 256))) 65535 = sumOut (stepS (sumK cs off (n / 2)) (lastB cs off n * 256))]) := by kernel_rfl
/-- The checksum of a row's bytes. -/
def sumV (cs : List Value) (off n : Nat) : Int := sumOut (if n % 2 = 1 then stepS (sumK cs off (n / 2)) (lastB cs off n * 256) else sumK cs off (n / 2))
def sumFn : RowFn := fun front cs _ off n _ rest => match front, rest with
  | [], [] => some (.int .i64 (sumV cs off n), [Bytes cs off n])
  | _, _ => none
theorem sum_ok : RowOk Tryd.prog 9 sumFn := by
  intro front cs e lo hi ex st off n c rest v pre hfn hp h id hg
  unfold sumFn at hfn
  split at hfn
  · cases hfn
    have hb := hp _ (List.mem_singleton.2 rfl)
    have hs := hb.small
    obtain ⟨s0, s1⟩ := sumK_bounds hb (n / 2) (by omega)
    unfold sumV
    by_cases hodd : n % 2 = 1
    · rw [if_pos hodd]
      obtain ⟨b1, b2, b3⟩ := byte_bounds hb (i := (n : Int) - 1) (by omega) (by omega)
      have b2' : 0 ≤ lastB cs off n := b2
      have b3' : lastB cs off n < 256 := b3
      obtain ⟨q0, q1⟩ := stepS_bounds s0 s1 (t := lastB cs off n * 256) (by omega) (by omega)
      refine row_tup (front := []) zerosFlat_here mixed_here (rowHints_ok .nil .nil) (sum_odd cs e lo hi ex st off n c hb) (fun p hp => ?_) rfl rfl hb.flat hg
      simp only [List.mem_cons, List.not_mem_nil, or_false] at hp
      rcases hp with rfl | rfl | rfl | rfl | rfl | rfl | rfl | rfl | rfl | rfl | rfl | rfl
      · exact selfB_true _
      · rw [beq_iff_eq, Int.tmod_eq_emod_of_nonneg (by omega)]; omega
      · exact wrap_in (by omega) (by omega)
      · omega
      · exact b1
      · exact wrap_in (by omega) (by omega)
      · have e8 : (2 : Int) ^ 8 = 256 := by decide
        rw [e8]; exact wrap_in (by omega) (by omega)
      · exact wrap_in (by omega) (by omega)
      · exact band16 (by omega) (by omega)
      · exact shr16 _
      · unfold stepS; exact wrap_in (by omega) (by omega)
      · exact sum_out q0 q1
    · rw [if_neg hodd]
      refine row_tup (front := []) zerosFlat_here mixed_here (rowHints_ok .nil .nil) (sum_even cs e lo hi ex st off n c hb) (fun p hp => ?_) rfl rfl hb.flat hg
      simp only [List.mem_cons, List.not_mem_nil, or_false] at hp
      rcases hp with rfl | rfl | rfl
      · exact selfB_true _
      · rw [beq_eq_false_iff_ne, Int.tmod_eq_emod_of_nonneg (by omega)]; omega
      · exact sum_out s0 s1
  · cases hfn

/-! ### four -/

def fourV (cs : List Value) (off : Nat) (i : Int) : Int := twoV cs off i * 65536 + twoV cs off (i + 2)
theorem four_run (cs : List Value) (e : TypeId) (lo hi : Nat) (ex st : Bool) (off n c : Nat) (i : Int) :
    rowOut ((runHR Tryd.prog 0 (rowHints (P := Tryd.prog) [(20, 8, .int (twoV cs off i * 65536)), (20, 11, .int (i + 2)), (20, 13, .int (fourV cs off i))] [] [(18, twoFn)] []) 30).2 20 ([] ++ .slice (some ⟨0, off, none⟩) n c :: [.int .i64 i]) (rowH cs e lo hi ex st 0)) =
    some (.int .i64 (fourV cs off i), [Bytes cs off n ∧ 0 ≤ i ∧ i + 1 < (n : Int), W64i (twoV cs off i * 2 ^ 16) = twoV cs off i * 65536, W64i (i + 2) = i + 2, Bytes cs off n ∧ 0 ≤ i + 2 ∧ i + 2 + 1 < (n : Int), bor (twoV cs off i * 65536) (twoV cs off (i + 2)) = fourV cs off i]) := by kernel_rfl
def fourFn : RowFn := fun front cs _ off n _ rest => match front, rest with
  | [], [.int .i64 i] => some (.int .i64 (fourV cs off i), [Bytes cs off n ∧ 0 ≤ i ∧ i + 3 < (n : Int)])
  | _, _ => none
theorem four_ok : RowOk Tryd.prog 20 fourFn := by
  intro front cs e lo hi ex st off n c rest v pre hfn hp h id hg
  unfold fourFn at hfn
  split at hfn
  · rename_i i
    cases hfn
    obtain ⟨hb, h0, h1⟩ := hp _ (List.mem_singleton.2 rfl)
    have hs := hb.small
    obtain ⟨a0, a1⟩ := twoV_bounds hb (i := i) h0 (by omega)
    obtain ⟨b0, b1⟩ := twoV_bounds hb (i := i + 2) (by omega) (by omega)
    have e16 : (2 : Int) ^ 16 = 65536 := by decide
    refine row_tup (front := []) zerosFlat_here mixed_here (rowHints_ok .nil (.cons two_ok .nil)) (four_run cs e lo hi ex st off n c i) (fun p hp => ?_) rfl rfl hb.flat hg
    simp only [List.mem_cons, List.not_mem_nil, or_false] at hp
    rcases hp with rfl | rfl | rfl | rfl | rfl
    · exact ⟨hb, h0, by omega⟩
    · rw [e16]; exact wrap_in (by omega) (by omega)
    · exact wrap_in (by omega) (by omega)
    · exact ⟨hb, by omega, by omega⟩
    · have := bor_add (a := twoV cs off i) (b := twoV cs off (i + 2)) 16 a0 b0 (by rw [e16]; exact b1) (by rw [e16]; omega)
      rw [e16] at this
      exact this
  · cases hfn
end Go.Proofs.YtnfijnioclcnmaaDoor
