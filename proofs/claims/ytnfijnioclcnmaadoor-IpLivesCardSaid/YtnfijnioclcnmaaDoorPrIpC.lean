/- IP: the headers of a packet of IPv6. -/
import Derived.Test.YtnfijnioclcnmaaDoorPrIpB
import Derived.Test.YtnfijnioclcnmaaDoorKit4
namespace Go.Proofs.YtnfijnioclcnmaaDoor
open Go Go.RowKit Go.Ev

/-! ### where a packet of IPv6 stands among its headers -/

structure S6 where
  at_ : Int
  nn : Int
  proto : Int
  offs : Int
  id : Int
  more : Bool
structure K6 where
  cls : Int
  lab : Int
  len : Int
  ttl : Int
def row40 (β : Nat → Int) (t : List Value) : List Value := ((List.range 40).map fun k => Value.int .u8 (β k)) ++ t
def src6 (β : Nat → Int) : List Value := (List.range 16).map fun k => Value.int .u8 (β (8 + k))
def dst6 (β : Nat → Int) : List Value := (List.range 16).map fun k => Value.int .u8 (β (24 + k))
def f6cells (β : Nat → Int) (q : K6) (s : S6) (hdr : Int) : List Value :=
  [.int .i64 6, .int .i64 q.cls, .int .i64 q.lab, .int .i64 q.len, .int .i64 hdr, .int .i64 s.id, .bool false, .bool s.more, .int .i64 s.offs, .int .i64 q.ttl, .int .i64 s.proto, .int .i64 0, .int .i64 0] ++ src6 β ++ dst6 β ++ [.bool false, .int .i64 0, .int .i64 0, .int .i64 0, .int .i64 0, .int .i64 0]
def zeroCells : List Value :=
  [.int .i64 0, .int .i64 0, .int .i64 0, .int .i64 0, .int .i64 0, .int .i64 0, .bool false, .bool false, .int .i64 0, .int .i64 0, .int .i64 0, .int .i64 0, .int .i64 0] ++ zero16 ++ zero16 ++ [.bool false, .int .i64 0, .int .i64 0, .int .i64 0, .int .i64 0, .int .i64 0]
def h6 (cs : List Value) (lo hi : Nat) (ex st : Bool) (box res : List Value) (rd wr : Nat) : AH :=
  ⟨T.set 24 (T.set 24 (T.set 24 .nil 0 (some (.cells cs 5 lo hi ex st))) 1 (some (.cells box 25 0 0 true false))) 2 (some (.cells res 25 0 0 true false)), 3, rd, wr⟩
noncomputable def body6 : Code := match Tryd.f14.body with
  | some (.seq _ (.scope b)) => b
  | _ => .skip
noncomputable def rest6 : Code := (findLabel body6 0).getD .skip
abbrev ptr1 : Value := .pointer (some ⟨1, 0, none⟩)
abbrev ptr2 : Value := .pointer (some ⟨2, 0, none⟩)
def live6 (n c : Nat) (s : S6) : List (Nat × Value) := [(1, pSl n c), (2, ptr1), (4, ptr2), (5, .int .i64 0), (6, .int .i64 s.at_), (7, .int .i64 s.nn)]
def byI (cs : List Value) (i : Int) : Int := B cs (0 + i.toNat * 1)
def sizeX (cs : List Value) (s : S6) : Int := 8 + 8 * byI cs (s.at_ + 1)
def nextX (cs : List Value) (s : S6) : S6 := ⟨s.at_ + sizeX cs s, s.nn + 1, byI cs s.at_, s.offs, s.id, s.more⟩
def nextF (cs : List Value) (s : S6) : S6 := ⟨s.at_ + 8, s.nn + 1, byI cs s.at_, 8 * (twoV cs 0 (s.at_ + 2) / 8), twoV cs 0 (s.at_ + 6), byI cs (s.at_ + 3) % 2 == 1⟩
abbrev h6Hints (cs : List Value) (q : K6) (s : S6) (w0 w43 w60 w44 g8 s8 z : Bool) : OpHints :=
  [(14, 64, .bool w0), (14, 65, .bool w43), (14, 66, .bool w60), (14, 67, .bool w44), (14, 69, .bool g8), (14, 74, .int (q.len - s.at_)), (14, 75, .bool s8), (14, 80, .bool (!(!w0 && !w43 && !w60 && w44))), (14, 84, .int (s.at_ + 1)), (14, 85, .op ixRule), (14, 86, ld cs), (14, 87, .int (byI cs (s.at_ + 1))),
   (14, 88, .int (8 * byI cs (s.at_ + 1))), (14, 89, .int (sizeX cs s)), (14, 93, .int (q.len - s.at_)), (14, 95, .bool z), (14, 99, .bool (!w0 && !w43 && !w60 && w44)), (14, 102, .int (s.at_ + 2)), (14, 104, .int (twoV cs 0 (s.at_ + 2) / 8)), (14, 105, .int (8 * (twoV cs 0 (s.at_ + 2) / 8))),
   (14, 109, .int (s.at_ + 3)), (14, 110, .op ixRule), (14, 111, ld cs), (14, 112, .int (byI cs (s.at_ + 3) % 2)), (14, 117, .int (s.at_ + 6)), (14, 122, .op ixRule), (14, 123, ld cs), (14, 124, .int (byI cs s.at_)), (14, 128, .int (s.at_ + bif (!w0 && !w43 && !w60 && w44) then 8 else sizeX cs s)), (14, 130, .int (s.nn + 1))]
noncomputable abbrev H6 (ops : OpHints) : Hints := rowHints (P := Tryd.prog) ops [] [(18, twoFn)] []
def kindP (s : S6) (w0 w43 w60 w44 : Bool) : List Prop :=
  ((s.proto == 0) = w0) :: bif w0 then [] else ((s.proto == 43) = w43) :: bif w43 then [] else ((s.proto == 60) = w60) :: bif w60 then [] else [(s.proto == 44) = w44]
/-- No header more: the packet's data begin. -/
theorem r6_end (β : Nat → Int) (t : List Value) (lo hi : Nat) (ex st : Bool) (n c : Nat) (q : K6) (s : S6) (f : Fr) :
    roundOutH [4, 5] [0, 1, 2] ((runHR Tryd.prog 0 (H6 (h6Hints (row40 β t) q s false false false false false false false)) 40).1 14 rest6 (canonF 131 (live6 n c s) f) (h6 (row40 β t) lo hi ex st (f6cells β q s 0) zeroCells 3 2)) =
    some (.ret, [ptr2, .int .i64 0], 131, (3, 3, 6), [some (.cells (row40 β t) 5 lo hi ex st), some (.cells (f6cells β q s s.at_) 25 0 0 true false), some (.cells (f6cells β q s s.at_) 25 0 0 true false)], kindP s false false false false) := by kernel_rfl
def is44 (w0 w43 w60 w44 : Bool) : Bool := !w0 && !w43 && !w60 && w44
def szV (cs : List Value) (s : S6) (k : Bool) : Int := bif k then 8 else sizeX cs s
def limP (q : K6) (s : S6) (g8 s8 : Bool) : List Prop := (decide (s.nn ≥ 8) = g8) :: bif g8 then [] else [W64i (q.len - s.at_) = q.len - s.at_, decide (q.len - s.at_ < 8) = s8]
def sizeP (cs : List Value) (n : Nat) (q : K6) (s : S6) (k z : Bool) : List Prop :=
  ((s.proto != 44) = !k) :: (bif k then [] else [W64i (s.at_ + 1) = s.at_ + 1, 0 ≤ s.at_ + 1 ∧ s.at_ + 1 < (n : Int), nthB cs (0 + (s.at_ + 1).toNat * 1), W64i (byI cs (s.at_ + 1)) = byI cs (s.at_ + 1), W64i (8 * byI cs (s.at_ + 1)) = 8 * byI cs (s.at_ + 1), W64i (8 + 8 * byI cs (s.at_ + 1)) = sizeX cs s]) ++
    [W64i (q.len - s.at_) = q.len - s.at_, decide (q.len - s.at_ < szV cs s k) = z]
def stepP (cs : List Value) (n : Nat) (s : S6) (k : Bool) : List Prop :=
  ((s.proto == 44) = k) :: (bif k then [W64i (s.at_ + 2) = s.at_ + 2, Bytes cs 0 n ∧ 0 ≤ s.at_ + 2 ∧ s.at_ + 2 + 1 < (n : Int), (twoV cs 0 (s.at_ + 2)).fdiv (2 ^ 3) = twoV cs 0 (s.at_ + 2) / 8, W64i (8 * (twoV cs 0 (s.at_ + 2) / 8)) = 8 * (twoV cs 0 (s.at_ + 2) / 8),
      W64i (s.at_ + 3) = s.at_ + 3, 0 ≤ s.at_ + 3 ∧ s.at_ + 3 < (n : Int), nthB cs (0 + (s.at_ + 3).toNat * 1), band8 (byI cs (s.at_ + 3)) 1 = byI cs (s.at_ + 3) % 2, W64i (s.at_ + 6) = s.at_ + 6, Bytes cs 0 n ∧ 0 ≤ s.at_ + 6 ∧ s.at_ + 6 + 1 < (n : Int)] else []) ++
    [0 ≤ s.at_ ∧ s.at_ < (n : Int), nthB cs (0 + s.at_.toNat * 1), W64i (byI cs s.at_) = byI cs s.at_, W64i (s.at_ + szV cs s k) = s.at_ + szV cs s k, W64i (s.nn + 1) = s.nn + 1]
def errP (cs : List Value) (n : Nat) (q : K6) (s : S6) (w0 w43 w60 w44 g8 s8 : Bool) : List Prop := kindP s w0 w43 w60 w44 ++ (limP q s g8 s8 ++ bif g8 || s8 then [] else sizeP cs n q s (is44 w0 w43 w60 w44) true)
def nextV (cs : List Value) (s : S6) (k : Bool) : S6 := bif k then nextF cs s else nextX cs s
theorem r6_err (β : Nat → Int) (t : List Value) (lo hi : Nat) (ex st : Bool) (n c : Nat) (q : K6) (s : S6) (f : Fr) (w0 w43 w60 w44 g8 s8 : Bool) (hw : (w0 || w43 || w60 || w44) = true) :
    roundOutH [4, 5] [0, 1, 2] ((runHR Tryd.prog 0 (H6 (h6Hints (row40 β t) q s w0 w43 w60 w44 g8 s8 true)) 40).1 14 rest6 (canonF 131 (live6 n c s) f) (h6 (row40 β t) lo hi ex st (f6cells β q s 0) zeroCells 3 2)) =
    some (.ret, [ptr2, .int .i64 180], 131, (3, 3, 6), [some (.cells (row40 β t) 5 lo hi ex st), some (.cells (f6cells β q s 0) 25 0 0 true false), some (.cells (f6cells β q s 0) 25 0 0 true false)], errP (row40 β t) n q s w0 w43 w60 w44 g8 s8) := by
  cases w0
  · cases w43
    · cases w60
      · cases w44
        · cases hw
        · cases g8 <;> cases s8 <;> kernel_rfl
      · cases g8 <;> cases s8 <;> kernel_rfl
    · cases g8 <;> cases s8 <;> kernel_rfl
  · cases g8 <;> cases s8 <;> kernel_rfl
theorem r6_next (β : Nat → Int) (t : List Value) (lo hi : Nat) (ex st : Bool) (n c : Nat) (q : K6) (s : S6) (f : Fr) (w0 w43 w60 w44 : Bool) (hw : (w0 || w43 || w60 || w44) = true) :
    roundOutH [1, 2, 4, 5, 6, 7] [0, 1, 2] ((runHR Tryd.prog 0 (H6 (h6Hints (row40 β t) q s w0 w43 w60 w44 false false false)) 40).1 14 rest6 (canonF 131 (live6 n c s) f) (h6 (row40 β t) lo hi ex st (f6cells β q s 0) zeroCells 3 2)) =
    some (.goto 0, [pSl n c, ptr1, ptr2, .int .i64 0, .int .i64 (nextV (row40 β t) s (is44 w0 w43 w60 w44)).at_, .int .i64 (s.nn + 1)], 131, (3, 3, 2), [some (.cells (row40 β t) 5 lo hi ex st), some (.cells (f6cells β q (nextV (row40 β t) s (is44 w0 w43 w60 w44)) 0) 25 0 0 true false), some (.cells zeroCells 25 0 0 true false)],
      kindP s w0 w43 w60 w44 ++ (limP q s false false ++ (sizeP (row40 β t) n q s (is44 w0 w43 w60 w44) false ++ stepP (row40 β t) n s (is44 w0 w43 w60 w44)))) := by
  cases w0
  · cases w43
    · cases w60
      · cases w44
        · cases hw
        · kernel_rfl
      · kernel_rfl
    · kernel_rfl
  · kernel_rfl

/-! ### the beginning -/

def init6 : List Value :=
  [.int .i64 6, .int .i64 0, .int .i64 0, .int .i64 0, .int .i64 0, .int .i64 0, .bool false, .bool false, .int .i64 0, .int .i64 0, .int .i64 0, .int .i64 0, .int .i64 0] ++ zero16 ++ zero16 ++ [.bool false, .int .i64 0, .int .i64 0, .int .i64 0, .int .i64 0, .int .i64 0]
def len6 (l : Int) : List Value :=
  [.int .i64 6, .int .i64 0, .int .i64 0, .int .i64 l, .int .i64 0, .int .i64 0, .bool false, .bool false, .int .i64 0, .int .i64 0, .int .i64 0, .int .i64 0, .int .i64 0] ++ zero16 ++ zero16 ++ [.bool false, .int .i64 0, .int .i64 0, .int .i64 0, .int .i64 0, .int .i64 0]
def len6V (cs : List Value) : Int := 40 + twoV cs 0 4
def labV (cs : List Value) (b1 : Int) : Int := b1 % 16 * 65536 + twoV cs 0 2
def q6 (cs : List Value) (β : Nat → Int) : K6 := ⟨twoV cs 0 0 / 16 % 256, labV cs (β 1), len6V cs, β 7⟩
def s6 (β : Nat → Int) : S6 := ⟨40, 0, β 6, 0, 0, false⟩
def start6 (n c : Nat) : List (Nat × Value) := [(0, .agg ⟨init6⟩), (1, pSl n c), (2, ptr1), (4, ptr2), (5, .int .i64 0)]
abbrev p6Hints (cs : List Value) (β : Nat → Int) (a b : Bool) : OpHints :=
  [(14, 11, .bool a), (14, 15, .int (len6V cs)), (14, 21, .bool b), (14, 25, .int (twoV cs 0 0 / 16)), (14, 26, .int (twoV cs 0 0 / 16 % 256)), (14, 29, .op ixRule), (14, 31, .int (β 1 % 16)), (14, 32, .int (β 1 % 16)), (14, 33, .int (β 1 % 16 * 65536)), (14, 36, .int (labV cs (β 1))),
   (14, 39, .op ixRule), (14, 41, .int (β 6)), (14, 43, .op ixRule), (14, 45, .int (β 7)), (14, 51, .op slRuleNe), (14, 56, .op slRuleNe)]
def p6P (cs : List Value) (β : Nat → Int) (n c : Nat) : List Prop :=
  [decide ((n : Int) < 40) = false, Bytes cs 0 n ∧ 0 ≤ (4 : Int) ∧ (4 : Int) + 1 < (n : Int), W64i (40 + twoV cs 0 4) = len6V cs, decide ((n : Int) < len6V cs) = false, Bytes cs 0 n ∧ 0 ≤ (0 : Int) ∧ (0 : Int) + 1 < (n : Int), (twoV cs 0 0).fdiv (2 ^ 4) = twoV cs 0 0 / 16, band (twoV cs 0 0 / 16) 255 = twoV cs 0 0 / 16 % 256,
   0 ≤ (1 : Int) ∧ (1 : Int) < (n : Int), band8 (β 1) 15 = β 1 % 16, W64i (β 1 % 16) = β 1 % 16, W64i (β 1 % 16 * 2 ^ 16) = β 1 % 16 * 65536, Bytes cs 0 n ∧ 0 ≤ (2 : Int) ∧ (2 : Int) + 1 < (n : Int), bor (β 1 % 16 * 65536) (twoV cs 0 2) = labV cs (β 1),
   0 ≤ (6 : Int) ∧ (6 : Int) < (n : Int), W64i (β 6) = β 6, 0 ≤ (7 : Int) ∧ (7 : Int) < (n : Int), W64i (β 7) = β 7,
   n ≤ c, True, 0 ≤ (24 : Int) ∧ (24 : Int) ≤ (c : Int), 0 ≤ (8 : Int) ∧ (8 : Int) ≤ (((24 : Int).toNat : Nat) : Int), c ≠ (8 : Int).toNat,
   n ≤ c, True, 0 ≤ (40 : Int) ∧ (40 : Int) ≤ (c : Int), 0 ≤ (24 : Int) ∧ (24 : Int) ≤ (((40 : Int).toNat : Nat) : Int), c ≠ (24 : Int).toNat]
theorem p6_short (cs : List Value) (lo hi : Nat) (ex st : Bool) (n c : Nat) (β : Nat → Int) (f : Fr) :
    roundOutH [4, 5] [0, 1, 2] ((runHR Tryd.prog 0 (H6 (p6Hints cs β true false)) 40).1 14 body6 (canonF 131 (start6 n c) f) (h6 cs lo hi ex st init6 zeroCells 0 0)) =
    some (.ret, [ptr2, .int .i64 8], 131, (3, 2, 4), [some (.cells cs 5 lo hi ex st), some (.cells init6 25 0 0 true false), some (.cells init6 25 0 0 true false)], [decide ((n : Int) < 40) = true]) := by kernel_rfl
theorem p6_cut (cs : List Value) (lo hi : Nat) (ex st : Bool) (n c : Nat) (β : Nat → Int) (f : Fr) :
    roundOutH [4, 5] [0, 1, 2] ((runHR Tryd.prog 0 (H6 (p6Hints cs β false true)) 40).1 14 body6 (canonF 131 (start6 n c) f) (h6 cs lo hi ex st init6 zeroCells 0 0)) =
    some (.ret, [ptr2, .int .i64 8], 131, (3, 3, 6), [some (.cells cs 5 lo hi ex st), some (.cells (len6 (len6V cs)) 25 0 0 true false), some (.cells (len6 (len6V cs)) 25 0 0 true false)],
      [decide ((n : Int) < 40) = false, Bytes cs 0 n ∧ 0 ≤ (4 : Int) ∧ (4 : Int) + 1 < (n : Int), W64i (40 + twoV cs 0 4) = len6V cs, decide ((n : Int) < len6V cs) = true]) := by kernel_rfl
theorem p6_end (β : Nat → Int) (t : List Value) (lo hi : Nat) (ex st : Bool) (n c : Nat) (f : Fr) :
    roundOutH [4, 5] [0, 1, 2] ((runHR Tryd.prog 0 (H6 (p6Hints (row40 β t) β false false ++ h6Hints (row40 β t) (q6 (row40 β t) β) (s6 β) false false false false false false false)) 40).1 14 body6 (canonF 131 (start6 n c) f) (h6 (row40 β t) lo hi ex st init6 zeroCells 0 0)) =
    some (.ret, [ptr2, .int .i64 0], 131, (3, 3, 6), [some (.cells (row40 β t) 5 lo hi ex st), some (.cells (f6cells β (q6 (row40 β t) β) (s6 β) 40) 25 0 0 true false), some (.cells (f6cells β (q6 (row40 β t) β) (s6 β) 40) 25 0 0 true false)],
      p6P (row40 β t) β n c ++ kindP (s6 β) false false false false) := by kernel_rfl
theorem p6_err (β : Nat → Int) (t : List Value) (lo hi : Nat) (ex st : Bool) (n c : Nat) (f : Fr) (w0 w43 w60 w44 s8 : Bool) (hw : (w0 || w43 || w60 || w44) = true) :
    roundOutH [4, 5] [0, 1, 2] ((runHR Tryd.prog 0 (H6 (p6Hints (row40 β t) β false false ++ h6Hints (row40 β t) (q6 (row40 β t) β) (s6 β) w0 w43 w60 w44 false s8 true)) 40).1 14 body6 (canonF 131 (start6 n c) f) (h6 (row40 β t) lo hi ex st init6 zeroCells 0 0)) =
    some (.ret, [ptr2, .int .i64 180], 131, (3, 3, 6), [some (.cells (row40 β t) 5 lo hi ex st), some (.cells (f6cells β (q6 (row40 β t) β) (s6 β) 0) 25 0 0 true false), some (.cells (f6cells β (q6 (row40 β t) β) (s6 β) 0) 25 0 0 true false)],
      p6P (row40 β t) β n c ++ errP (row40 β t) n (q6 (row40 β t) β) (s6 β) w0 w43 w60 w44 false s8) := by
  cases w0
  · cases w43
    · cases w60
      · cases w44
        · cases hw
        · cases s8 <;> kernel_rfl
      · cases s8 <;> kernel_rfl
    · cases s8 <;> kernel_rfl
  · cases s8 <;> kernel_rfl
theorem p6_next (β : Nat → Int) (t : List Value) (lo hi : Nat) (ex st : Bool) (n c : Nat) (f : Fr) (w0 w43 w60 w44 : Bool) (hw : (w0 || w43 || w60 || w44) = true) :
    roundOutH [1, 2, 4, 5, 6, 7] [0, 1, 2] ((runHR Tryd.prog 0 (H6 (p6Hints (row40 β t) β false false ++ h6Hints (row40 β t) (q6 (row40 β t) β) (s6 β) w0 w43 w60 w44 false false false)) 40).1 14 body6 (canonF 131 (start6 n c) f) (h6 (row40 β t) lo hi ex st init6 zeroCells 0 0)) =
    some (.goto 0, [pSl n c, ptr1, ptr2, .int .i64 0, .int .i64 (nextV (row40 β t) (s6 β) (is44 w0 w43 w60 w44)).at_, .int .i64 ((s6 β).nn + 1)], 131, (3, 3, 2), [some (.cells (row40 β t) 5 lo hi ex st), some (.cells (f6cells β (q6 (row40 β t) β) (nextV (row40 β t) (s6 β) (is44 w0 w43 w60 w44)) 0) 25 0 0 true false), some (.cells zeroCells 25 0 0 true false)],
      p6P (row40 β t) β n c ++ (kindP (s6 β) w0 w43 w60 w44 ++ (limP (q6 (row40 β t) β) (s6 β) false false ++ (sizeP (row40 β t) n (q6 (row40 β t) β) (s6 β) (is44 w0 w43 w60 w44) false ++ stepP (row40 β t) n (s6 β) (is44 w0 w43 w60 w44))))) := by
  cases w0
  · cases w43
    · cases w60
      · cases w44
        · cases hw
        · kernel_rfl
      · kernel_rfl
    · kernel_rfl
  · kernel_rfl
end Go.Proofs.YtnfijnioclcnmaaDoor
