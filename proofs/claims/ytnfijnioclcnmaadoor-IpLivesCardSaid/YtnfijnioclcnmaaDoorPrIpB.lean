/- IP: the headers of a packet of IP. -/
import Derived.Test.YtnfijnioclcnmaaDoorPrIpA
namespace Go.Proofs.YtnfijnioclcnmaaDoor
open Go Go.RowKit Go.Ev
abbrev pSl (n c : Nat) : Value := .slice (some ⟨0, 0, none⟩) n c
def zero16 : List Value := List.replicate 16 (.int .u8 0)
def fieldsV (ver cls lab len hdr id : Int) (dont more : Bool) (offs ttl proto src dst : Int) (s6 d6 : List Value) (car : Bool) (sp dp fl ty co : Int) : Value :=
  .agg ⟨[.int .i64 ver, .int .i64 cls, .int .i64 lab, .int .i64 len, .int .i64 hdr, .int .i64 id, .bool dont, .bool more, .int .i64 offs, .int .i64 ttl, .int .i64 proto, .int .i64 src, .int .i64 dst] ++ s6 ++ d6 ++ [.bool car, .int .i64 sp, .int .i64 dp, .int .i64 fl, .int .i64 ty, .int .i64 co]⟩
def noFields (e : Int) : Value := .tuple #[fieldsV 0 0 0 0 0 0 false false 0 0 0 0 0 zero16 zero16 false 0 0 0 0 0, .int .i64 e]
def B (cs : List Value) (k : Nat) : Int := byteAt cs k
abbrev ld (cs : List Value) : OpHint := .op (ldRule fun o => .int .u8 (B cs o))
abbrev nthB (cs : List Value) (k : Nat) : Prop := nth cs k = some (.int .u8 (B cs k))
abbrev band8 (a b : Int) : Int := IntKind.u8.wrap ((BitVec.ofInt 8 a &&& BitVec.ofInt 8 b).toNat : Int)
def hdrV (cs : List Value) : Int := 4 * (B cs 0 % 16)
def lenV (cs : List Value) : Int := twoV cs 0 2
def sumHdr (cs : List Value) (c : Nat) : Int := sumV cs (0 + bif decide (c = 0) then 0 else 0 * 1) ((hdrV cs).toNat - 0)
abbrev v4Hints (cs : List Value) (t1 t2 t3 t4 t5 t6 t7 : Bool) : OpHints :=
  [(7, 9, .bool false), (7, 12, .op ixRule), (7, 13, ld cs), (7, 14, .int (B cs 0 / 16)), (7, 15, .int 4), (13, 8, .bool t1), (13, 11, .op ixRule), (13, 12, ld cs), (13, 13, .int (B cs 0 % 16)), (13, 14, .int (B cs 0 % 16)), (13, 15, .int (hdrV cs)), (13, 18, .int (lenV cs)),
   (13, 23, .bool t2), (13, 30, .bool t3), (13, 37, .bool t4), (13, 44, .bool t5), (13, 50, .op slRule), (13, 52, .bool t6), (13, 56, .op ixRule), (13, 57, ld cs), (13, 58, .int (B cs 6 / 128)), (13, 59, .bool t7)]
def v4A (cs : List Value) (n c : Nat) (t1 t2 t3 t4 t5 t6 t7 : Bool) : List Prop :=
  [decide ((n : Int) < 1) = false, 0 ≤ (0 : Int) ∧ (0 : Int) < (n : Int), nthB cs 0, (B cs 0).fdiv (2 ^ 4) = B cs 0 / 16, W64i (B cs 0 / 16) = 4, decide ((n : Int) < 20) = t1] ++ bif t1 then [] else
  [0 ≤ (0 : Int) ∧ (0 : Int) < (n : Int), nthB cs 0, band8 (B cs 0) 15 = B cs 0 % 16, W64i (B cs 0 % 16) = B cs 0 % 16, W64i (4 * (B cs 0 % 16)) = hdrV cs, twoV cs 0 2 = lenV cs, Bytes cs 0 n ∧ 0 ≤ (2 : Int) ∧ (2 : Int) + 1 < (n : Int), decide (hdrV cs < 20) = t2] ++ bif t2 then [] else
  [decide ((n : Int) < hdrV cs) = t3] ++ bif t3 then [] else [decide (lenV cs < hdrV cs) = t4] ++ bif t4 then [] else [decide ((n : Int) < lenV cs) = t5] ++ bif t5 then [] else
  [n ≤ c, True, 0 ≤ hdrV cs ∧ hdrV cs ≤ (c : Int), True, Bytes cs (0 + bif decide (c = 0) then 0 else 0 * 1) ((hdrV cs).toNat - 0), (sumHdr cs c != 0) = t6] ++ bif t6 then [] else
  [0 ≤ (6 : Int) ∧ (6 : Int) < (n : Int), nthB cs 6, (B cs 6).fdiv (2 ^ 7) = B cs 6 / 128, (B cs 6 / 128 == 1) = t7]
def v4Err (t1 t2 t3 t4 t5 t6 : Bool) : Int := bif t1 then 8 else bif t2 then 180 else bif t3 then 8 else bif t4 then 180 else bif t5 then 8 else bif t6 then 20 else 180
theorem p_v4err (cs : List Value) (lo hi : Nat) (ex st : Bool) (n c : Nat) (t1 t2 t3 t4 t5 t6 t7 : Bool) (ht : (t1 || t2 || t3 || t4 || t5 || t6 || t7) = true) :
    rowOut ((runHR Tryd.prog 0 (rowHints (P := Tryd.prog) (v4Hints cs t1 t2 t3 t4 t5 t6 t7) [] [(9, sumFn), (18, twoFn), (20, fourFn)] []) 40).2 7 ([] ++ pSl n c :: []) (rowH cs 5 lo hi ex st 0)) =
    some (noFields (v4Err t1 t2 t3 t4 t5 t6), v4A cs n c t1 t2 t3 t4 t5 t6 t7) := by
  cases t1
  · cases t2
    · cases t3
      · cases t4
        · cases t5
          · cases t6
            · cases t7
              · cases ht
              · kernel_rfl
            · kernel_rfl
          · kernel_rfl
        · kernel_rfl
      · kernel_rfl
    · kernel_rfl
  · kernel_rfl
abbrev bandI (a b : Int) : Int := band a b
def offsV (cs : List Value) : Int := 8 * (twoV cs 0 6 % 8192)
def cOff (cs : List Value) : Nat := 0 + bif decide ((lenV cs).toNat = (hdrV cs).toNat) then 0 else (hdrV cs).toNat * 1
def cLen (cs : List Value) : Nat := (lenV cs).toNat - (hdrV cs).toNat
def outc (u1 u2 u3 u4 u5 u6 u7 : Bool) : Nat := bif u1 then 0 else bif u2 && u3 then 1 else bif u4 && u5 then 2 else bif u6 && u7 then 3 else 0
def carV (k : Nat) : Bool := match k with | 0 => false | _ => true
def spV (cs : List Value) (o k : Nat) : Int := match k with | 1 | 2 => twoV cs o 0 | _ => 0
def dpV (cs : List Value) (o k : Nat) : Int := match k with | 1 | 2 => twoV cs o 2 | _ => 0
def flV (cs : List Value) (o k : Nat) : Int := match k with | 1 => B cs (o + 13 * 1) | _ => 0
def tyV (cs : List Value) (o k : Nat) : Int := match k with | 3 => B cs (o + 0 * 1) | _ => 0
def coV (cs : List Value) (o k : Nat) : Int := match k with | 3 => B cs (o + 1 * 1) | _ => 0
def v4Fields (cs : List Value) (k : Nat) : Value :=
  fieldsV 4 (B cs 1) 0 (lenV cs) (hdrV cs) (twoV cs 0 4) (B cs 6 / 64 % 2 == 1) (B cs 6 / 32 % 2 == 1) (offsV cs) (B cs 8) (B cs 9) (fourV cs 0 12) (fourV cs 0 16) zero16 zero16 (carV k) (spV cs (cOff cs) k) (dpV cs (cOff cs) k) (flV cs (cOff cs) k) (tyV cs (cOff cs) k) (coV cs (cOff cs) k)
abbrev v4OkHints (cs : List Value) (u1 u2 u3 u4 u5 u6 u7 : Bool) : OpHints := v4Hints cs false false false false false false false ++
  [(13, 62, .op ixRule), (13, 63, ld cs), (13, 64, .int (B cs 1)), (13, 70, .op ixRule), (13, 71, ld cs), (13, 72, .int (B cs 6 / 64)), (13, 73, .int (B cs 6 / 64 % 2)), (13, 76, .op ixRule), (13, 77, ld cs), (13, 78, .int (B cs 6 / 32)), (13, 79, .int (B cs 6 / 32 % 2)),
   (13, 85, .int (twoV cs 0 6 % 8192)), (13, 86, .int (offsV cs)), (13, 89, .op ixRule), (13, 90, ld cs), (13, 91, .int (B cs 8)), (13, 93, .op ixRule), (13, 94, ld cs), (13, 95, .int (B cs 9)), (7, 46, .op slRule),
   (15, 8, .bool u1), (15, 14, .bool u2), (15, 18, .bool u3), (15, 28, .op ixRule), (15, 29, ld cs), (15, 30, .int (B cs (cOff cs + 13 * 1))), (15, 42, .bool u4), (15, 46, .bool u5), (15, 69, .bool u6), (15, 88, .bool u7),
   (15, 93, .op ixRule), (15, 94, ld cs), (15, 95, .int (B cs (cOff cs + 0 * 1))), (15, 97, .op ixRule), (15, 98, ld cs), (15, 99, .int (B cs (cOff cs + 1 * 1)))]
def v4B (cs : List Value) (n c : Nat) : List Prop :=
  [0 ≤ (1 : Int) ∧ (1 : Int) < (n : Int), nthB cs 1, W64i (B cs 1) = B cs 1, Bytes cs 0 n ∧ 0 ≤ (4 : Int) ∧ (4 : Int) + 1 < (n : Int),
   0 ≤ (6 : Int) ∧ (6 : Int) < (n : Int), nthB cs 6, (B cs 6).fdiv (2 ^ 6) = B cs 6 / 64, band8 (B cs 6 / 64) 1 = B cs 6 / 64 % 2, 0 ≤ (6 : Int) ∧ (6 : Int) < (n : Int), nthB cs 6, (B cs 6).fdiv (2 ^ 5) = B cs 6 / 32, band8 (B cs 6 / 32) 1 = B cs 6 / 32 % 2,
   Bytes cs 0 n ∧ 0 ≤ (6 : Int) ∧ (6 : Int) + 1 < (n : Int), band (twoV cs 0 6) 8191 = twoV cs 0 6 % 8192, W64i (8 * (twoV cs 0 6 % 8192)) = offsV cs,
   0 ≤ (8 : Int) ∧ (8 : Int) < (n : Int), nthB cs 8, W64i (B cs 8) = B cs 8, 0 ≤ (9 : Int) ∧ (9 : Int) < (n : Int), nthB cs 9, W64i (B cs 9) = B cs 9,
   Bytes cs 0 n ∧ 0 ≤ (12 : Int) ∧ (12 : Int) + 3 < (n : Int), Bytes cs 0 n ∧ 0 ≤ (16 : Int) ∧ (16 : Int) + 3 < (n : Int),
   n ≤ c, 0 ≤ lenV cs ∧ lenV cs ≤ (c : Int), 0 ≤ lenV cs ∧ lenV cs ≤ ((lenV cs).toNat : Int), 0 ≤ hdrV cs ∧ hdrV cs ≤ ((lenV cs).toNat : Int)]
def carP (cs : List Value) (offs proto : Int) (o m : Nat) (u1 u2 u3 u4 u5 u6 u7 : Bool) : List Prop :=
  [(offs != 0) = u1] ++ bif u1 then [] else ((proto == 6) = u2) :: (bif u2 then [decide ((m : Int) ≥ 20) = u3] else []) ++ bif u2 && u3 then
    [Bytes cs o m ∧ 0 ≤ (0 : Int) ∧ (0 : Int) + 1 < (m : Int), Bytes cs o m ∧ 0 ≤ (2 : Int) ∧ (2 : Int) + 1 < (m : Int), 0 ≤ (13 : Int) ∧ (13 : Int) < (m : Int), nthB cs (o + 13 * 1), W64i (B cs (o + 13 * 1)) = B cs (o + 13 * 1)]
  else ((proto == 17) = u4) :: (bif u4 then [decide ((m : Int) ≥ 8) = u5] else []) ++ bif u4 && u5 then
    [Bytes cs o m ∧ 0 ≤ (0 : Int) ∧ (0 : Int) + 1 < (m : Int), Bytes cs o m ∧ 0 ≤ (2 : Int) ∧ (2 : Int) + 1 < (m : Int)]
  else ((proto == 1) = u6) :: (bif u6 then [decide ((m : Int) ≥ 4) = u7] else []) ++ bif u6 && u7 then
    [0 ≤ (0 : Int) ∧ (0 : Int) < (m : Int), nthB cs (o + 0 * 1), W64i (B cs (o + 0 * 1)) = B cs (o + 0 * 1), 0 ≤ (1 : Int) ∧ (1 : Int) < (m : Int), nthB cs (o + 1 * 1), W64i (B cs (o + 1 * 1)) = B cs (o + 1 * 1)]
  else []
theorem p_v4ok (cs : List Value) (lo hi : Nat) (ex st : Bool) (n c : Nat) (u1 u2 u3 u4 u5 u6 u7 : Bool) :
    rowOut ((runHR Tryd.prog 0 (rowHints (P := Tryd.prog) (v4OkHints cs u1 u2 u3 u4 u5 u6 u7) [] [(9, sumFn), (18, twoFn), (20, fourFn)] []) 40).2 7 ([] ++ pSl n c :: []) (rowH cs 5 lo hi ex st 0)) =
    some (.tuple #[v4Fields cs (outc u1 u2 u3 u4 u5 u6 u7), .int .i64 0], v4A cs n c false false false false false false false ++ (v4B cs n c ++ carP cs (offsV cs) (B cs 9) (cOff cs) (cLen cs) u1 u2 u3 u4 u5 u6 u7)) := by
  cases u1
  · cases u2
    · cases u4
      · cases u6
        · kernel_rfl
        · cases u7 <;> kernel_rfl
      · cases u5
        · cases u6
          · kernel_rfl
          · cases u7 <;> kernel_rfl
        · kernel_rfl
    · cases u3
      · cases u4
        · cases u6
          · kernel_rfl
          · cases u7 <;> kernel_rfl
        · cases u5
          · cases u6
            · kernel_rfl
            · cases u7 <;> kernel_rfl
          · kernel_rfl
      · kernel_rfl
  · kernel_rfl
end Go.Proofs.YtnfijnioclcnmaaDoor
