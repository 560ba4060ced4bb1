/- An evaluator of closed calls: its heap, what its values stand for, and that a run of an operation agrees with it. Holds for every program. -/
import Derived.Calls
import Derived.Orders
import Derived.Laws.Sem
import Derived.Laws.World
namespace Go.Ev
open Go

/-! ### lists and a map by numbers -/

def nth {α : Type} : List α → Nat → Option α
  | [], _ => none
  | x :: _, 0 => some x
  | _ :: l, n + 1 => nth l n
def upd {α : Type} : List α → Nat → α → List α
  | [], _, _ => []
  | _ :: l, 0, y => y :: l
  | x :: l, n + 1, y => x :: upd l n y
theorem nth_eq {α : Type} (l : List α) (i : Nat) : nth l i = l[i]? := by
  induction l generalizing i with
  | nil => simp [nth]
  | cons x l ih => cases i <;> simp [nth, ih]
theorem upd_eq {α : Type} (l : List α) (i : Nat) (y : α) : upd l i y = l.set i y := by
  induction l generalizing i with
  | nil => simp [upd]
  | cons x l ih => cases i <;> simp [upd, ih]

inductive T (α : Type) where
  | nil
  | node (v : Option α) (l r : T α)
def T.get {α : Type} : T α → Nat → Option α
  | .nil, _ => none
  | .node v l r, k => cond (Nat.beq k 0) v (cond (Nat.beq (k % 2) 1) (l.get (k / 2)) (r.get (k / 2 - 1)))
def T.set {α : Type} : Nat → T α → Nat → Option α → T α
  | 0, t, _, _ => t
  | f + 1, .nil, k, x => cond (Nat.beq k 0) (.node x .nil .nil) (cond (Nat.beq (k % 2) 1) (.node none (T.set f .nil (k / 2) x) .nil) (.node none .nil (T.set f .nil (k / 2 - 1) x)))
  | f + 1, .node v l r, k, x => cond (Nat.beq k 0) (.node x l r) (cond (Nat.beq (k % 2) 1) (.node v (T.set f l (k / 2) x) r) (.node v l (T.set f r (k / 2 - 1) x)))
theorem beq_eq (a b : Nat) : Nat.beq a b = decide (a = b) := by
  rw [Bool.eq_iff_iff]; simp
theorem T.get_set {α : Type} (f : Nat) : ∀ (t : T α) (k : Nat) (x : Option α) (j : Nat), k + 1 < 2 ^ f → (T.set f t k x).get j = if j = k then x else t.get j := by
  induction f with
  | zero => intro t k x j h; simp at h
  | succ f ih =>
    intro t k x j h
    have hp : 2 ^ (f + 1) = 2 * 2 ^ f := by rw [Nat.pow_succ, Nat.mul_comm]
    rw [hp] at h
    have nilg : ∀ i, (T.nil : T α).get i = none := fun i => rfl
    have jo : ∀ i : Nat, i ≠ 0 → i % 2 ≠ 1 → i % 2 = 0 := fun i _ _ => by omega
    cases t with
    | nil =>
      simp only [T.set, beq_eq, nilg]
      by_cases hk : k = 0
      · subst hk
        simp only [decide_true, cond_true, T.get, beq_eq]
        by_cases hj : j = 0
        · simp [hj]
        · simp only [hj, decide_false, cond_false, if_false]; cases decide (j % 2 = 1) <;> rfl
      · simp only [hk, decide_false, cond_false]
        by_cases hk2 : k % 2 = 1
        · simp only [hk2, decide_true, cond_true, T.get, beq_eq]
          by_cases hj : j = 0
          · subst hj; simp [Ne.symm hk]
          · simp only [hj, decide_false, cond_false]
            by_cases hj2 : j % 2 = 1
            · simp only [hj2, decide_true, cond_true, ih .nil (k / 2) x (j / 2) (by omega), nilg]
              by_cases e : j = k
              · subst e; simp
              · rw [if_neg e, if_neg (by omega)]
            · simp only [hj2, decide_false, cond_false]; rw [if_neg (by omega)]
        · simp only [hk2, decide_false, cond_false, T.get, beq_eq]
          by_cases hj : j = 0
          · subst hj; simp [Ne.symm hk]
          · simp only [hj, decide_false, cond_false]
            by_cases hj2 : j % 2 = 1
            · simp only [hj2, decide_true, cond_true]; rw [if_neg (by omega)]
            · simp only [hj2, decide_false, cond_false, ih .nil (k / 2 - 1) x (j / 2 - 1) (by omega), nilg]
              by_cases e : j = k
              · subst e; simp
              · rw [if_neg e, if_neg (by omega)]
    | node v l r =>
      simp only [T.set, beq_eq]
      by_cases hk : k = 0
      · subst hk
        simp only [decide_true, cond_true, T.get, beq_eq]
        by_cases hj : j = 0
        · simp [hj]
        · simp [hj]
      · simp only [hk, decide_false, cond_false]
        by_cases hk2 : k % 2 = 1
        · simp only [hk2, decide_true, cond_true, T.get, beq_eq]
          by_cases hj : j = 0
          · subst hj; simp [Ne.symm hk]
          · simp only [hj, decide_false, cond_false]
            by_cases hj2 : j % 2 = 1
            · simp only [hj2, decide_true, cond_true, ih l (k / 2) x (j / 2) (by omega)]
              by_cases e : j = k
              · subst e; simp
              · rw [if_neg e, if_neg (by omega)]
            · simp only [hj2, decide_false, cond_false]; rw [if_neg (by omega)]
        · simp only [hk2, decide_false, cond_false, T.get, beq_eq]
          by_cases hj : j = 0
          · subst hj; simp [Ne.symm hk]
          · simp only [hj, decide_false, cond_false]
            by_cases hj2 : j % 2 = 1
            · simp only [hj2, decide_true, cond_true]; rw [if_neg (by omega)]
            · simp only [hj2, decide_false, cond_false, ih r (k / 2 - 1) x (j / 2 - 1) (by omega)]
              by_cases e : j = k
              · subst e; simp
              · rw [if_neg e, if_neg (by omega)]

/-! ### what an abstract block stands for -/

structure BI where
  blk : Nat
  sh : Nat
  tot : Nat
  ex : Bool
  sz : Nat
abbrev K := Nat → Option BI
def K.le (κ κ' : K) : Prop := ∀ id b, κ id = some b → κ' id = some b
theorem K.le_refl (κ : K) : κ.le κ := fun _ _ h => h
theorem K.le_trans {a b c : K} (h : a.le b) (h' : b.le c) : a.le c := fun i x e => h' i x (h i x e)

def AddrR (κ : K) (a a' : Addr) : Prop := a.spot = none ∧ ∃ b, κ a.block = some b ∧ a' = ⟨b.blk, b.sh + a.off, none⟩
def SliceR (κ : K) (a : Addr) (n c : Nat) (a' : Addr) (c' : Nat) : Prop :=
  a.spot = none ∧ a'.spot = none ∧ ∃ b, κ a.block = some b ∧ a'.block = b.blk ∧
    ((a'.off = b.sh + a.off ∧ c' = c) ∨
     (b.ex = false ∧ a'.off + c' * b.sz ≤ b.tot ∧ b.sh ≤ a'.off ∧ c ≤ c' ∧ (a'.off = b.sh + a.off ∨ (n = 0 ∧ c = 0))))

mutual
inductive VR (κ : K) : Value → Value → Prop
  | bool (b : Bool) : VR κ (.bool b) (.bool b)
  | int (k : IntKind) (n : Int) : VR κ (.int k n) (.int k n)
  | float (k : FloatKind) (n : Nat) : VR κ (.float k n) (.float k n)
  | complex (k : FloatKind) (n m : Nat) : VR κ (.complex k n m) (.complex k n m)
  | string (s : ByteArray) : VR κ (.string s) (.string s)
  | ptrNil : VR κ (.pointer none) (.pointer none)
  | ptr {a a' : Addr} : AddrR κ a a' → VR κ (.pointer (some a)) (.pointer (some a'))
  | sliceNil (n c : Nat) : VR κ (.slice none n c) (.slice none n c)
  | slice {a a' : Addr} {n c c' : Nat} : SliceR κ a n c a' c' → VR κ (.slice (some a) n c) (.slice (some a') n c')
  | mapNil : VR κ (.map none) (.map none)
  | map {r : Nat} {b : BI} : κ r = some b → VR κ (.map (some r)) (.map (some b.blk))
  | chanNil : VR κ (.chan none) (.chan none)
  | func {fn : Fn} {f c f' c' : List Value} : (∀ l, fn ≠ .yield l) → VL κ f f' → VL κ c c' → VR κ (.func fn ⟨f⟩ ⟨c⟩) (.func fn ⟨f'⟩ ⟨c'⟩)
  | yield (l : Nat) : VR κ (.func (.yield 0) ⟨[]⟩ ⟨[]⟩) (.func (.yield l) ⟨[]⟩ ⟨[]⟩)
  | nilFunc : VR κ .nilFunc .nilFunc
  | iface {t : TypeId} {v v' : Value} : VR κ v v' → VR κ (.iface t v) (.iface t v')
  | nilIface : VR κ .nilIface .nilIface
  | agg {l l' : List Value} : VL κ l l' → VR κ (.agg ⟨l⟩) (.agg ⟨l'⟩)
  | tuple {l l' : List Value} : VL κ l l' → VR κ (.tuple ⟨l⟩) (.tuple ⟨l'⟩)
inductive VL (κ : K) : List Value → List Value → Prop
  | nil : VL κ [] []
  | cons {v v' : Value} {l l' : List Value} : VR κ v v' → VL κ l l' → VL κ (v :: l) (v' :: l')
end

theorem AddrR.mono {κ κ' : K} (hk : κ.le κ') {a a' : Addr} (h : AddrR κ a a') : AddrR κ' a a' :=
  ⟨h.1, h.2.choose, hk _ _ h.2.choose_spec.1, h.2.choose_spec.2⟩
theorem SliceR.mono {κ κ' : K} (hk : κ.le κ') {a a' : Addr} {n c c' : Nat} (h : SliceR κ a n c a' c') : SliceR κ' a n c a' c' := by
  obtain ⟨h1, h2, b, h3, h4⟩ := h
  exact ⟨h1, h2, b, hk _ _ h3, h4⟩
mutual
theorem VR.mono {κ κ' : K} (hk : κ.le κ') : ∀ {v v' : Value}, VR κ v v' → VR κ' v v'
  | _, _, .bool b => .bool b
  | _, _, .int k n => .int k n
  | _, _, .float k n => .float k n
  | _, _, .complex k n m => .complex k n m
  | _, _, .string s => .string s
  | _, _, .ptrNil => .ptrNil
  | _, _, .ptr h => .ptr (h.mono hk)
  | _, _, .sliceNil n c => .sliceNil n c
  | _, _, .slice h => .slice (h.mono hk)
  | _, _, .mapNil => .mapNil
  | _, _, .map h => .map (hk _ _ h)
  | _, _, .chanNil => .chanNil
  | _, _, .func h h1 h2 => .func h (VL.mono hk h1) (VL.mono hk h2)
  | _, _, .yield l => .yield l
  | _, _, .nilFunc => .nilFunc
  | _, _, .iface h => .iface (VR.mono hk h)
  | _, _, .nilIface => .nilIface
  | _, _, .agg h => .agg (VL.mono hk h)
  | _, _, .tuple h => .tuple (VL.mono hk h)
theorem VL.mono {κ κ' : K} (hk : κ.le κ') : ∀ {v v' : List Value}, VL κ v v' → VL κ' v v'
  | _, _, .nil => .nil
  | _, _, .cons h h' => .cons (VR.mono hk h) (VL.mono hk h')
end

theorem VL.length {κ : K} {l l' : List Value} (h : VL κ l l') : l'.length = l.length := by
  induction l generalizing l' with
  | nil => cases h; rfl
  | cons x l ih => cases h with | cons h h' => simp [ih h']
theorem VL.get {κ : K} {l l' : List Value} (h : VL κ l l') (i : Nat) : (l[i]? = none ∧ l'[i]? = none) ∨ ∃ v v', l[i]? = some v ∧ l'[i]? = some v' ∧ VR κ v v' := by
  induction l generalizing l' i with
  | nil => cases h; simp
  | cons x l ih =>
    cases h with
    | cons h h' =>
      cases i with
      | zero => exact .inr ⟨_, _, rfl, rfl, h⟩
      | succ i => simpa using ih h' i
theorem VL.of_get {κ : K} {l l' : List Value} (hl : l'.length = l.length) (h : ∀ (i : Nat) v v', l[i]? = some v → l'[i]? = some v' → VR κ v v') : VL κ l l' := by
  induction l generalizing l' with
  | nil => cases l' with
    | nil => exact .nil
    | cons _ _ => simp at hl
  | cons x l ih =>
    cases l' with
    | nil => simp at hl
    | cons y l' => exact .cons (h 0 x y rfl rfl) (ih (by simpa using hl) fun i v v' e e' => h (i + 1) v v' (by simpa using e) (by simpa using e'))
theorem VL.append {κ : K} {l l' m m' : List Value} (h : VL κ l l') (h' : VL κ m m') : VL κ (l ++ m) (l' ++ m') := by
  induction l generalizing l' with
  | nil => cases h; exact h'
  | cons x l ih => cases h with | cons h1 h2 => exact .cons h1 (ih h2)
theorem VL.set {κ : K} {l l' : List Value} (h : VL κ l l') {v v' : Value} (hv : VR κ v v') (i : Nat) : VL κ (l.set i v) (l'.set i v') := by
  induction l generalizing l' i with
  | nil => cases h; exact .nil
  | cons x l ih => cases h with | cons h1 h2 => cases i with
    | zero => exact .cons hv h2
    | succ i => exact .cons h1 (ih h2 i)
theorem VL.take {κ : K} {l l' : List Value} (h : VL κ l l') (i : Nat) : VL κ (l.take i) (l'.take i) := by
  induction l generalizing l' i with
  | nil => cases h; simpa using VL.nil
  | cons x l ih => cases h with | cons h1 h2 => cases i with
    | zero => exact .nil
    | succ i => exact .cons h1 (ih h2 i)
theorem VL.drop {κ : K} {l l' : List Value} (h : VL κ l l') (i : Nat) : VL κ (l.drop i) (l'.drop i) := by
  induction l generalizing l' i with
  | nil => cases h; simpa using VL.nil
  | cons x l ih => cases h with | cons h1 h2 => cases i with
    | zero => exact .cons h1 h2
    | succ i => exact ih h2 i
theorem VL.extract {κ : K} {l l' : List Value} (h : VL κ l l') (i j : Nat) : VL κ ((⟨l⟩ : Array Value).extract i j).toList ((⟨l'⟩ : Array Value).extract i j).toList := by
  simp only [Array.toList_extract, List.extract_eq_take_drop]
  exact (h.drop i).take (j - i)

/-! ### values that bear no address -/

mutual
def flatV : Value → Bool
  | .bool _ | .int _ _ | .float _ _ | .complex _ _ _ | .string _ | .pointer none | .slice none _ _ | .map none | .chan none | .nilFunc | .nilIface => true
  | .func fn ⟨f⟩ ⟨c⟩ => (match fn with | .yield _ => false | _ => true) && flatL f && flatL c
  | .iface _ v => flatV v
  | .agg ⟨l⟩ => flatL l
  | .tuple ⟨l⟩ => flatL l
  | _ => false
def flatL : List Value → Bool
  | [] => true
  | v :: l => flatV v && flatL l
end
mutual
theorem VR.flat {κ : K} : ∀ (v : Value), flatV v = true → VR κ v v
  | .bool b, _ => .bool b
  | .int k n, _ => .int k n
  | .float k n, _ => .float k n
  | .complex k n m, _ => .complex k n m
  | .string s, _ => .string s
  | .pointer none, _ => .ptrNil
  | .slice none n c, _ => .sliceNil n c
  | .map none, _ => .mapNil
  | .chan none, _ => .chanNil
  | .nilFunc, _ => .nilFunc
  | .nilIface, _ => .nilIface
  | .func fn ⟨f⟩ ⟨c⟩, h => by
    simp only [flatV, Bool.and_eq_true] at h
    exact .func (by rintro l rfl; simp at h) (VL.flat f h.1.2) (VL.flat c h.2)
  | .iface t v, h => .iface (VR.flat v (by simpa [flatV] using h))
  | .agg ⟨l⟩, h => .agg (VL.flat l (by simpa [flatV] using h))
  | .tuple ⟨l⟩, h => .tuple (VL.flat l (by simpa [flatV] using h))
  | .pointer (some _), h => by simp [flatV] at h
  | .slice (some _) _ _, h => by simp [flatV] at h
  | .map (some _), h => by simp [flatV] at h
  | .chan (some _), h => by simp [flatV] at h
theorem VL.flat {κ : K} : ∀ (l : List Value), flatL l = true → VL κ l l
  | [], _ => .nil
  | v :: l, h => by
    simp only [flatL, Bool.and_eq_true] at h
    exact .cons (VR.flat v h.1) (VL.flat l h.2)
end
mutual
theorem VR.eq_of_flat {κ : K} : ∀ {v v' : Value}, VR κ v v' → flatV v = true → v' = v
  | _, _, .bool b, _ => rfl
  | _, _, .int k n, _ => rfl
  | _, _, .float k n, _ => rfl
  | _, _, .complex k n m, _ => rfl
  | _, _, .string s, _ => rfl
  | _, _, .ptrNil, _ => rfl
  | _, _, .ptr h, e => by simp [flatV] at e
  | _, _, .sliceNil n c, _ => rfl
  | _, _, .slice h, e => by simp [flatV] at e
  | _, _, .mapNil, _ => rfl
  | _, _, .map h, e => by simp [flatV] at e
  | _, _, .chanNil, _ => rfl
  | _, _, .func h h1 h2, e => by
    simp only [flatV, Bool.and_eq_true] at e
    rw [VL.eq_of_flat h1 e.1.2, VL.eq_of_flat h2 e.2]
  | _, _, .yield l, e => by simp [flatV] at e
  | _, _, .nilFunc, _ => rfl
  | _, _, .iface h, e => by rw [VR.eq_of_flat h (by simpa [flatV] using e)]
  | _, _, .nilIface, _ => rfl
  | _, _, .agg h, e => by rw [VL.eq_of_flat h (by simpa [flatV] using e)]
  | _, _, .tuple h, e => by rw [VL.eq_of_flat h (by simpa [flatV] using e)]
theorem VL.eq_of_flat {κ : K} : ∀ {l l' : List Value}, VL κ l l' → flatL l = true → l' = l
  | _, _, .nil, _ => rfl
  | _, _, .cons h h', e => by
    simp only [flatL, Bool.and_eq_true] at e
    rw [VR.eq_of_flat h e.1, VL.eq_of_flat h' e.2]
end

/-! ### objects -/

inductive EL (κ : K) : List MapEntry → List MapEntry → Prop
  | nil : EL κ [] []
  | cons {e e' : MapEntry} {l l' : List MapEntry} : VR κ e.key e'.key → VR κ e.val e'.val → e'.born = e.born → EL κ l l' → EL κ (e :: l) (e' :: l')
theorem EL.mono {κ κ' : K} (hk : κ.le κ') {l l' : List MapEntry} (h : EL κ l l') : EL κ' l l' := by
  induction h with
  | nil => exact .nil
  | cons h1 h2 h3 _ ih => exact .cons (h1.mono hk) (h2.mono hk) h3 ih

/-- Objects that are no rows of cells. -/
inductive ObjR (κ : K) : Obj → Obj → Prop
  | map {es es' : List MapEntry} (c : Nat) : EL κ es es' → ObjR κ (.map ⟨es⟩ c) (.map ⟨es'⟩ c)
  | stringIter (s : ByteArray) (p : Nat) : ObjR κ (.stringIter s p) (.stringIter s p)
  | mapIterNil (a : Nat) (b : Array Nat) (c : Nat) : ObjR κ (.mapIter none a b c) (.mapIter none a b c)
theorem ObjR.mono {κ κ' : K} (hk : κ.le κ') {o o' : Obj} (h : ObjR κ o o') : ObjR κ' o o' := by
  cases h with
  | map c h => exact .map c (h.mono hk)
  | stringIter s p => exact .stringIter s p
  | mapIterNil a b c => exact .mapIterNil a b c
/-- What is made. -/
inductive NewR (κ : K) : Obj → Obj → Prop
  | cells {l l' : List Value} (e : TypeId) : VL κ l l' → NewR κ (.cells ⟨l⟩ e (0, 0)) (.cells ⟨l'⟩ e (0, 0))
  | obj {o o' : Obj} : ObjR κ o o' → NewR κ o o'

inductive AObj where
  | cells (c : List Value) (elem : TypeId) (lo hi : Nat) (ex st : Bool)
  | obj (o : Obj)
def absObj : Obj → Option AObj
  | .map es c => some (.obj (.map es c))
  | .stringIter s p => some (.obj (.stringIter s p))
  | .mapIter none a b c => some (.obj (.mapIter none a b c))
  | _ => none
def absNew : Obj → Option AObj
  | .cells ⟨l⟩ e (0, 0) => some (.cells l e 0 0 true false)
  | o => absObj o

structure AH where
  t : T AObj
  n : Nat
  rd : Nat
  wr : Nat
def AH.get (h : AH) (id : Nat) : Option AObj := h.t.get id
def AH.rdBit (h : AH) (id : Nat) : AH := { h with rd := h.rd ||| (1 <<< id) }
def AH.put (h : AH) (id : Nat) (o : AObj) : AH := { h with t := h.t.set 24 id (some o), wr := h.wr ||| (1 <<< id) }
def AH.kill (h : AH) (id : Nat) : AH := { h with t := h.t.set 24 id none, wr := h.wr ||| (1 <<< id) }
def AH.push (h : AH) (o : AObj) : AH := { h with t := h.t.set 24 h.n (some o), n := h.n + 1 }
def AH.touched (h : AH) (id : Nat) : Bool := h.rd.testBit id || h.wr.testBit id
def small (id : Nat) : Bool := Nat.blt id 16777000

def oneCell : Value → Bool
  | .agg _ | .tuple _ => false
  | _ => true

/-- A run over the abstract heap; 'none': it can not be told. -/
def arun {α : Type} (P : Program) : Sem α → AH → Option (α × AH)
  | .pure a, h => some (a, h)
  | .load _ a k, h =>
    match a.spot with
    | some _ => none
    | none => match h.get a.block with
      | some (.cells c _ _ _ _ _) => match nth c a.off with
        | some v => cond (oneCell v) (arun P (k v) (h.rdBit a.block)) none
        | none => none
      | _ => none
  | .store _ a v k, h =>
    match a.spot with
    | some _ => none
    | none => match h.get a.block with
      | some (.cells c e lo hi ex st) =>
        cond (oneCell v && small a.block && Nat.blt a.off c.length && !(Nat.blt hi lo || (Nat.ble lo a.off && Nat.blt a.off hi)))
          (arun P k (h.put a.block (.cells (upd c a.off v) e lo hi ex st))) none
      | _ => none
  | .new o k, h =>
    match absNew o with
    | some ao => cond (small h.n) (arun P (k h.n) (h.push ao)) none
    | none => none
  | .shape r k, h =>
    match h.get r with
    | some (.cells c e lo hi true _) => cond (Nat.ble lo hi) (arun P (k (some (e, c.length))) (h.rdBit r)) none
    | some (.obj _) => arun P (k none) (h.rdBit r)
    | _ => none
  | .getObj r k, h =>
    match h.get r with
    | some (.obj o) => arun P (k o) (h.rdBit r)
    | _ => none
  | .setObj r o k, h =>
    match h.get r, absObj o with
    | some (.obj _), some ao => cond (small r) (arun P k (h.put r ao)) none
    | _, _ => none
  | .choose q k, h => cond q.forced (arun P (k 0) h) none
  | .program k, h => arun P (k P) h
  | .mark _ k, h => arun P k h
  | .freeze _ _ _, _ => none
  | .frozen _ _, _ => none
  | .sys _ _, _ => none
  | .halt _, _ => none

theorem arun_bind {α β : Type} (P : Program) (s : Sem α) (f : α → Sem β) (h : AH) :
    arun P (s.bind f) h = (arun P s h).bind fun x => arun P (f x.1) x.2 := by
  induction s generalizing h with
  | pure a => rfl
  | load m a k ih =>
    simp only [Sem.bind, arun]
    cases a.spot with
    | some _ => rfl
    | none =>
      simp only []
      cases h.get a.block with
      | none => rfl
      | some o => cases o with
        | obj o => rfl
        | cells c e lo hi ex st =>
          simp only []
          cases nth c a.off with
          | none => rfl
          | some v =>
            simp only []
            cases oneCell v with
            | false => rfl
            | true => exact ih v _
  | store m a v k ih =>
    simp only [Sem.bind, arun]
    cases a.spot with
    | some _ => rfl
    | none =>
      simp only []
      cases h.get a.block with
      | none => rfl
      | some o => cases o with
        | obj o => rfl
        | cells c e lo hi ex st =>
          simp only []
          cases (oneCell v && small a.block && Nat.blt a.off c.length && !(Nat.blt hi lo || (Nat.ble lo a.off && Nat.blt a.off hi))) with
          | false => rfl
          | true => exact ih _
  | new o k ih =>
    simp only [Sem.bind, arun]
    cases absNew o with
    | none => rfl
    | some ao => cases small h.n with
      | false => rfl
      | true => exact ih _ _
  | shape r k ih =>
    simp only [Sem.bind, arun]
    cases h.get r with
    | none => rfl
    | some o => cases o with
      | obj o => exact ih _ _
      | cells c e lo hi ex st => cases ex with
        | false => rfl
        | true =>
          simp only []
          cases Nat.ble lo hi with
          | false => rfl
          | true => exact ih _ _
  | freeze a n k ih => rfl
  | frozen a k ih => rfl
  | getObj r k ih =>
    simp only [Sem.bind, arun]
    cases h.get r with
    | none => rfl
    | some o => cases o with
      | obj o => exact ih _ _
      | cells => rfl
  | setObj r o k ih =>
    simp only [Sem.bind, arun]
    cases h.get r with
    | none => rfl
    | some x => cases x with
      | cells => rfl
      | obj x => cases absObj o with
        | none => rfl
        | some ao => cases small r with
          | false => rfl
          | true => exact ih _
  | choose q k ih =>
    simp only [Sem.bind, arun]
    cases q.forced with
    | false => rfl
    | true => exact ih _ _
  | sys c k ih => rfl
  | program k ih => exact ih _ _
  | mark m k ih => exact ih _
  | halt h => rfl

/-! ### the world that an abstract heap stands for -/

def ObjIn (P : Program) (κ : K) (b : BI) (w : World) : AObj → Prop
  | .cells c e lo hi ex st => b.ex = ex ∧ (if ex then b.sh = 0 ∧ b.tot = c.length else b.sz = P.cellsOf e) ∧ b.sh + c.length ≤ b.tot ∧
      ∃ (c' : Array Value) (fz : Nat × Nat), (∃ e', w.heap[b.blk]? = some (.cells c' e' fz) ∧ (lo ≤ hi → e' = e)) ∧ c'.size = b.tot ∧
        (∀ (i : Nat) v, c[i]? = some v → ∃ v', c'[b.sh + i]? = some v' ∧ (oneCell v = true → VR κ v v')) ∧
        (lo ≤ hi → fz.1 = fz.2 ∨ (st = true ∧ fz = (b.tot, b.tot + 1)) ∨ (st = false ∧ lo < hi ∧ b.sh + lo ≤ fz.1 ∧ fz.2 ≤ b.sh + hi))
  | .obj o => b.sh = 0 ∧ ∃ o', w.heap[b.blk]? = some o' ∧ ObjR κ o o'
theorem ObjIn.mono {P : Program} {κ κ' : K} (hk : κ.le κ') {b : BI} {w : World} {o : AObj} (h : ObjIn P κ b w o) : ObjIn P κ' b w o := by
  cases o with
  | cells c e lo hi ex st =>
    obtain ⟨h1, h2, h3, c', fz, h4, h5, h6, h7⟩ := h
    exact ⟨h1, h2, h3, c', fz, h4, h5, fun i v hv => let ⟨v', e, r⟩ := h6 i v hv; ⟨v', e, fun ho => (r ho).mono hk⟩, h7⟩
  | obj o => obtain ⟨h0, o', h1, h2⟩ := h; exact ⟨h0, o', h1, h2.mono hk⟩
theorem ObjIn.lt {P : Program} {κ : K} {b : BI} {w : World} {o : AObj} (h : ObjIn P κ b w o) : b.blk < w.heap.size := by
  cases o with
  | cells c e lo hi ex st => obtain ⟨_, _, _, c', fz, ⟨_, h4, _⟩, _⟩ := h; exact (Array.getElem?_eq_some_iff.1 h4).1
  | obj o => obtain ⟨_, o', h1, _⟩ := h; exact (Array.getElem?_eq_some_iff.1 h1).1
theorem ObjIn.heap {P : Program} {κ : K} {b : BI} {w w' : World} {o : AObj} (h : ObjIn P κ b w o) (he : w'.heap[b.blk]? = w.heap[b.blk]?) : ObjIn P κ b w' o := by
  cases o with
  | cells c e lo hi ex st => unfold ObjIn at *; rw [he]; exact h
  | obj o => unfold ObjIn at *; rw [he]; exact h

/-- A row that is read alone: it may lie where another such row lies. -/
def AObj.view : AObj → Bool
  | .cells _ _ lo hi _ _ => Nat.blt hi lo
  | .obj _ => false
theorem view_typed {c : List Value} {e : TypeId} {lo hi : Nat} {ex st : Bool} (h : lo ≤ hi) : (AObj.cells c e lo hi ex st).view = false := by
  unfold AObj.view
  rw [Bool.eq_false_iff, ne_eq, Nat.blt_eq]
  omega
theorem view_and {a b c d : Bool} (h : (a && b) = false) (h1 : c = true → a = true) (h2 : d = true → b = true) : (c && d) = false := by
  cases c <;> cases d <;> simp_all
structure Rel (P : Program) (κ : K) (G : Nat → Option AObj) (w : World) : Prop where
  at_ : ∀ id o, G id = some o → ∃ b, κ id = some b ∧ ObjIn P κ b w o
  one : ∀ id id' o o' b b', G id = some o → G id' = some o' → κ id = some b → κ id' = some b' → b.blk = b'.blk → (o.view && o'.view) = false → id = id'
  old : ∀ id b, κ id = some b → b.blk < w.heap.size

structure Same (w w' : World) : Prop where
  os : w'.os = w.os
  tape : w'.tape = w.tape
  output : w'.output = w.output
  size : w.heap.size ≤ w'.heap.size
theorem Same.refl (w : World) : Same w w := ⟨rfl, rfl, rfl, Nat.le_refl _⟩
theorem Same.trans {a b c : World} (h : Same a b) (h' : Same b c) : Same a c := ⟨h'.os.trans h.os, h'.tape.trans h.tape, h'.output.trans h.output, Nat.le_trans h.size h'.size⟩

structure Ext (h h' : AH) : Prop where
  n : h.n ≤ h'.n
  rd : ∀ id, h.rd.testBit id = true → h'.rd.testBit id = true
  wr : ∀ id, h.wr.testBit id = true → h'.wr.testBit id = true
  same : ∀ id, id < h.n → h'.wr.testBit id = false → h'.get id = h.get id
theorem Ext.refl (h : AH) : Ext h h := ⟨Nat.le_refl _, fun _ e => e, fun _ e => e, fun _ _ _ => rfl⟩
theorem Ext.trans {a b c : AH} (h : Ext a b) (h' : Ext b c) : Ext a c :=
  ⟨Nat.le_trans h.n h'.n, fun i e => h'.rd i (h.rd i e), fun i e => h'.wr i (h.wr i e), fun i hi hw => by
    rw [h'.same i (Nat.lt_of_lt_of_le hi h.n) hw]
    exact h.same i hi (by cases e : b.wr.testBit i with | false => rfl | true => rw [h'.wr i e] at hw; cases hw)⟩

def Agree (h h' : AH) (G : Nat → Option AObj) : Prop := ∀ id, id < h.n → h'.touched id = true → G id = h.get id
def Fresh (h h' : AH) (κ : K) (G : Nat → Option AObj) : Prop := ∀ id, h.n ≤ id → id < h'.n → G id = none ∧ κ id = none
def merge (h h' : AH) (G : Nat → Option AObj) : Nat → Option AObj := fun id => if (h.n ≤ id ∧ id < h'.n) ∨ h'.wr.testBit id = true then h'.get id else G id

structure KX (h h' : AH) (κ κ' : K) (w w' : World) : Prop where
  le : κ.le κ'
  dom : ∀ id, ¬ (h.n ≤ id ∧ id < h'.n) → κ' id = κ id
  new : ∀ id b, κ' id = some b → κ id = some b ∨ w.heap.size ≤ b.blk ∨ ∃ i c, κ i = some c ∧ c.blk = b.blk ∧ h'.wr.testBit i = true
  keep : ∀ k, k < w.heap.size → (∀ id b, κ id = some b → b.blk = k → h'.wr.testBit id = false) → w'.heap[k]? = w.heap[k]?
  same : Same w w'

theorem touched_mono {h h' : AH} (e : Ext h h') {id : Nat} (ht : h.touched id = true) : h'.touched id = true := by
  simp only [AH.touched, Bool.or_eq_true] at *
  exact ht.imp (e.rd id) (e.wr id)
theorem Agree.left {a b c : AH} {G : Nat → Option AObj} (h' : Ext b c) (ha : Agree a c G) : Agree a b G :=
  fun id hi ht => ha id hi (touched_mono h' ht)
theorem Agree.right {a b c : AH} {G : Nat → Option AObj} (h : Ext a b) (ha : Agree a c G) : Agree b c (merge a b G) := by
  intro id hi ht
  unfold merge
  split
  · rfl
  · rename_i hn
    simp only [not_or, Bool.not_eq_true] at hn
    have hlt : id < a.n := by
      rcases Nat.lt_or_ge id a.n with e | e
      · exact e
      · exact absurd ⟨e, hi⟩ hn.1
    rw [ha id hlt ht, h.same id hlt hn.2]
theorem merge_merge {a b c : AH} {G : Nat → Option AObj} (h : Ext a b) (h' : Ext b c) : merge b c (merge a b G) = merge a c G := by
  funext id
  unfold merge
  by_cases h1 : (b.n ≤ id ∧ id < c.n) ∨ c.wr.testBit id = true
  · rw [if_pos h1, if_pos]
    rcases h1 with ⟨x, y⟩ | x
    · exact .inl ⟨Nat.le_trans h.n x, y⟩
    · exact .inr x
  · rw [if_neg h1]
    simp only [not_or, Bool.not_eq_true] at h1
    have hw : b.wr.testBit id = false := by
      cases e : b.wr.testBit id with
      | false => rfl
      | true => have := h'.wr id e; rw [h1.2] at this; cases this
    by_cases h2 : a.n ≤ id ∧ id < b.n
    · rw [if_pos (.inl h2), if_pos (.inl ⟨h2.1, Nat.lt_of_lt_of_le h2.2 h'.n⟩)]
      exact (h'.same id h2.2 h1.2).symm
    · rw [if_neg (by simp [h2, hw]), if_neg]
      simp only [not_or, Bool.not_eq_true]
      refine ⟨?_, h1.2⟩
      rintro ⟨x, y⟩
      rcases Nat.lt_or_ge id b.n with e | e
      · exact h2 ⟨x, e⟩
      · exact h1.1 ⟨e, y⟩
theorem Fresh.left {a b c : AH} {κ : K} {G : Nat → Option AObj} (h' : Ext b c) (hf : Fresh a c κ G) : Fresh a b κ G :=
  fun id x y => hf id x (Nat.lt_of_lt_of_le y h'.n)
theorem Fresh.right {a b c : AH} {κ κ' : K} {G : Nat → Option AObj} {w w' : World} (h : Ext a b) (hk : KX a b κ κ' w w')
    (hwr : ∀ id, a.n ≤ id → b.wr.testBit id = true → id < b.n) (hf : Fresh a c κ G) : Fresh b c κ' (merge a b G) := by
  intro id x y
  have h0 := hf id (Nat.le_trans h.n x) y
  refine ⟨?_, ?_⟩
  · unfold merge
    rw [if_neg]
    · exact h0.1
    · rintro (⟨_, z⟩ | z)
      · omega
      · have := hwr id (Nat.le_trans h.n x) z; omega
  · rw [hk.dom id (by omega)]; exact h0.2
theorem KX.refl (h : AH) (κ : K) (w : World) : KX h h κ κ w w := ⟨K.le_refl κ, fun _ _ => rfl, fun _ _ e => .inl e, fun _ _ _ => rfl, Same.refl w⟩
theorem KX.trans {a b c : AH} {κ κ' κ'' : K} {w w' w'' : World} (e : Ext a b) (e' : Ext b c) (h : KX a b κ κ' w w') (h' : KX b c κ' κ'' w' w'') : KX a c κ κ'' w w'' where
  le := K.le_trans h.le h'.le
  dom := fun id hn => by
    have h1 := e.n; have h2 := e'.n
    rw [h'.dom id (by omega), h.dom id (by omega)]
  new := fun id x hx => by
    rcases h'.new id x hx with h1 | h1 | ⟨i, y, hi, hy, hw⟩
    · rcases h.new id x h1 with h2 | h2 | ⟨i, y, hi, hy, hw⟩
      · exact .inl h2
      · exact .inr (.inl h2)
      · exact .inr (.inr ⟨i, y, hi, hy, e'.wr i hw⟩)
    · exact .inr (.inl (Nat.le_trans h.same.size h1))
    · rcases h.new i y hi with h2 | h2 | ⟨j, z, hj, hz, hw'⟩
      · exact .inr (.inr ⟨i, y, h2, hy, hw⟩)
      · exact .inr (.inl (by omega))
      · exact .inr (.inr ⟨j, z, hj, hz.trans hy, e'.wr j hw'⟩)
  keep := fun k hk hn => by
    rw [h'.keep k (Nat.lt_of_lt_of_le hk h.same.size), h.keep k hk]
    · intro id x hx hb
      cases e1 : b.wr.testBit id with
      | false => rfl
      | true => have := hn id x hx hb; rw [e'.wr id e1] at this; cases this
    · intro id x hx hb
      rcases h.new id x hx with h2 | h2 | ⟨j, z, hj, hz, hw'⟩
      · exact hn id x h2 hb
      · omega
      · have := hn j z hj (hz.trans hb); rw [e'.wr j hw'] at this; cases this
  same := h.same.trans h'.same

theorem testBit_or_shift (m id j : Nat) : (m ||| (1 <<< id)).testBit j = (m.testBit j || decide (j = id)) := by
  rw [Nat.testBit_or, Nat.one_shiftLeft, Nat.testBit_two_pow]
  by_cases h : j = id
  · subst h; simp
  · simp [h, Ne.symm h]
end Go.Ev
