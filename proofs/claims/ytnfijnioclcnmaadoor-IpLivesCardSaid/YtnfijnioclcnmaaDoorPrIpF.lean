/- IP: a packet as bytes is read: the ways of the code. -/
import Derived.Test.YtnfijnioclcnmaaDoorPrIpE
namespace Go.Proofs.YtnfijnioclcnmaaDoor
open Go Go.RowKit Go.Ev

/-! ### what a packet is -/

structure PF where
  ver : Int := 0
  cls : Int := 0
  lab : Int := 0
  len : Int := 0
  hdr : Int := 0
  id : Int := 0
  dont : Bool := false
  more : Bool := false
  offs : Int := 0
  ttl : Int := 0
  proto : Int := 0
  src : Int := 0
  dst : Int := 0
  s6 : Nat → Int := fun _ => 0
  d6 : Nat → Int := fun _ => 0
  car : Bool := false
  sp : Int := 0
  dp : Int := 0
  fl : Int := 0
  ty : Int := 0
  co : Int := 0
  err : Int := 0
def u8s (β : Nat → Int) : List Value := (List.range 16).map fun k => Value.int .u8 (β k)
def PF.fields (p : PF) : Value := fieldsV p.ver p.cls p.lab p.len p.hdr p.id p.dont p.more p.offs p.ttl p.proto p.src p.dst (u8s p.s6) (u8s p.d6) p.car p.sp p.dp p.fl p.ty p.co
def PF.val (p : PF) : Value := .tuple #[p.fields, .int .i64 p.err]
def PR : RowSums := [(9, sumFn), (18, twoFn), (20, fourFn), (14, v6Fn)]
theorem PR_ok : RowSums.Ok Tryd.prog PR := .cons sum_ok (.cons two_ok (.cons four_ok (.cons v6_ok .nil)))

/-! ### the ways -/

theorem p_empty (cs : List Value) (lo hi : Nat) (ex st : Bool) (n c : Nat) :
    rowOut ((runHR Tryd.prog 0 (rowHints (P := Tryd.prog) [(7, 9, .bool true)] [] [(9, sumFn), (18, twoFn), (20, fourFn), (14, v6Fn)] []) 40).2 7 ([] ++ pSl n c :: []) (rowH cs 5 lo hi ex st 0)) =
    some (({ err := 8 } : PF).val, [decide ((n : Int) < 1) = true]) := by kernel_rfl
abbrev verHints (cs : List Value) (v : Int) : OpHints := [(7, 9, .bool false), (7, 12, .op ixRule), (7, 13, ld cs), (7, 14, .int (B cs 0 / 16)), (7, 15, .int v)]
def verP (cs : List Value) (n : Nat) (v : Int) : List Prop := [decide ((n : Int) < 1) = false, 0 ≤ (0 : Int) ∧ (0 : Int) < (n : Int), nthB cs 0, (B cs 0).fdiv (2 ^ 4) = B cs 0 / 16, W64i (B cs 0 / 16) = v]
theorem p_none (cs : List Value) (lo hi : Nat) (ex st : Bool) (n c : Nat) :
    rowOut ((runHR Tryd.prog 0 (rowHints (P := Tryd.prog) (verHints cs (B cs 0 / 16) ++ [(7, 22, .bool false), (7, 26, .bool false)]) [] [(9, sumFn), (18, twoFn), (20, fourFn), (14, v6Fn)] []) 40).2 7 ([] ++ pSl n c :: []) (rowH cs 5 lo hi ex st 0)) =
    some (({ err := 180 } : PF).val, verP cs n (B cs 0 / 16) ++ [(B cs 0 / 16 == 4) = false, (B cs 0 / 16 == 6) = false]) := by kernel_rfl
def v6P (cs : List Value) (n c : Nat) : List Prop := match v6Fn [.agg ⟨init6⟩] cs 5 0 n c [] with
  | some (_, ps) => ps
  | none => []
theorem p_v6err (cs : List Value) (lo hi : Nat) (ex st : Bool) (n c : Nat) :
    rowOut ((runHR Tryd.prog 0 (rowHints (P := Tryd.prog) (verHints cs 6 ++ [(7, 36, .bool true)]) [] [(9, sumFn), (18, twoFn), (20, fourFn), (14, v6Fn)] []) 40).2 7 ([] ++ pSl n c :: []) (rowH cs 5 lo hi ex st 0)) =
    some (({ err := er6 cs n } : PF).val, verP cs n 6 ++ (v6P cs n c ++ [(er6 cs n != 0) = true])) := by kernel_rfl
def o6 (cs : List Value) (n : Nat) : Nat := 0 + bif decide ((k6 cs n).len.toNat = (hd6 cs n).toNat) then 0 else (hd6 cs n).toNat * 1
def m6 (cs : List Value) (n : Nat) : Nat := (k6 cs n).len.toNat - (hd6 cs n).toNat
def v6PF (cs : List Value) (n k : Nat) : PF :=
  { ver := 6, cls := (k6 cs n).cls, lab := (k6 cs n).lab, len := (k6 cs n).len, hdr := hd6 cs n, id := (t6 cs n).id, more := (t6 cs n).more, offs := (t6 cs n).offs, ttl := (k6 cs n).ttl, proto := (t6 cs n).proto,
    s6 := fun j => β6 cs n (8 + j), d6 := fun j => β6 cs n (24 + j), car := carV k, sp := spV cs (o6 cs n) k, dp := dpV cs (o6 cs n) k, fl := flV cs (o6 cs n) k, ty := tyV cs (o6 cs n) k, co := coV cs (o6 cs n) k }
abbrev v6OkHints (cs : List Value) (n : Nat) (u1 u2 u3 u4 u5 u6 u7 : Bool) : OpHints := verHints cs 6 ++
  [(7, 36, .bool false), (7, 46, .op slRule), (15, 8, .bool u1), (15, 14, .bool u2), (15, 18, .bool u3), (15, 28, .op ixRule), (15, 29, ld cs), (15, 30, .int (B cs (o6 cs n + 13 * 1))), (15, 42, .bool u4), (15, 46, .bool u5), (15, 82, .bool u6), (15, 88, .bool u7),
   (15, 93, .op ixRule), (15, 94, ld cs), (15, 95, .int (B cs (o6 cs n + 0 * 1))), (15, 97, .op ixRule), (15, 98, ld cs), (15, 99, .int (B cs (o6 cs n + 1 * 1)))]
def carQ (cs : List Value) (icmp offs proto : Int) (o m : Nat) (u1 u2 u3 u4 u5 u6 u7 : Bool) : List Prop :=
  [(offs != 0) = u1] ++ bif u1 then [] else ((proto == 6) = u2) :: (bif u2 then [decide ((m : Int) ≥ 20) = u3] else []) ++ bif u2 && u3 then
    [Bytes cs o m ∧ 0 ≤ (0 : Int) ∧ (0 : Int) + 1 < (m : Int), Bytes cs o m ∧ 0 ≤ (2 : Int) ∧ (2 : Int) + 1 < (m : Int), 0 ≤ (13 : Int) ∧ (13 : Int) < (m : Int), nthB cs (o + 13 * 1), W64i (B cs (o + 13 * 1)) = B cs (o + 13 * 1)]
  else ((proto == 17) = u4) :: (bif u4 then [decide ((m : Int) ≥ 8) = u5] else []) ++ bif u4 && u5 then
    [Bytes cs o m ∧ 0 ≤ (0 : Int) ∧ (0 : Int) + 1 < (m : Int), Bytes cs o m ∧ 0 ≤ (2 : Int) ∧ (2 : Int) + 1 < (m : Int)]
  else ((proto == icmp) = u6) :: (bif u6 then [decide ((m : Int) ≥ 4) = u7] else []) ++ bif u6 && u7 then
    [0 ≤ (0 : Int) ∧ (0 : Int) < (m : Int), nthB cs (o + 0 * 1), W64i (B cs (o + 0 * 1)) = B cs (o + 0 * 1), 0 ≤ (1 : Int) ∧ (1 : Int) < (m : Int), nthB cs (o + 1 * 1), W64i (B cs (o + 1 * 1)) = B cs (o + 1 * 1)]
  else []
def sliceP6 (cs : List Value) (n c : Nat) : List Prop := [n ≤ c, 0 ≤ (k6 cs n).len ∧ (k6 cs n).len ≤ (c : Int), 0 ≤ (k6 cs n).len ∧ (k6 cs n).len ≤ (((k6 cs n).len).toNat : Int), 0 ≤ hd6 cs n ∧ hd6 cs n ≤ (((k6 cs n).len).toNat : Int)]
theorem p_v6ok (cs : List Value) (lo hi : Nat) (ex st : Bool) (n c : Nat) (u1 u2 u3 u4 u5 u6 u7 : Bool) :
    rowOut ((runHR Tryd.prog 0 (rowHints (P := Tryd.prog) (v6OkHints cs n u1 u2 u3 u4 u5 u6 u7) [] [(9, sumFn), (18, twoFn), (20, fourFn), (14, v6Fn)] []) 40).2 7 ([] ++ pSl n c :: []) (rowH cs 5 lo hi ex st 0)) =
    some ((v6PF cs n (outc u1 u2 u3 u4 u5 u6 u7)).val, verP cs n 6 ++ (v6P cs n c ++ (((er6 cs n != 0) = false) :: (sliceP6 cs n c ++ carQ cs 58 (t6 cs n).offs (t6 cs n).proto (o6 cs n) (m6 cs n) u1 u2 u3 u4 u5 u6 u7)))) := by
  cases u1
  · cases u2
    · cases u4
      · cases u6
        · kernel_rfl
        · cases u7 <;> kernel_rfl
      · cases u5
        · cases u6
          · kernel_rfl
          · cases u7 <;> kernel_rfl
        · kernel_rfl
    · cases u3
      · cases u4
        · cases u6
          · kernel_rfl
          · cases u7 <;> kernel_rfl
        · cases u5
          · cases u6
            · kernel_rfl
            · cases u7 <;> kernel_rfl
          · kernel_rfl
      · kernel_rfl
  · kernel_rfl
end Go.Proofs.YtnfijnioclcnmaaDoor
