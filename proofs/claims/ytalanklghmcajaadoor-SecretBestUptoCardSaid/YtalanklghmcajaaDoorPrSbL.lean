/- secrets: the law SecretBest walked. -/
import Derived.Maps.AppendAt
import Derived.OwnWalk
import Derived.Laws.AppendOwnNone
import Derived.Test.YtalanklghmcajaaDoorPrSbF
import Derived.Test.YtalanklghmcajaaDoorPrSbJ
import Derived.Test.YtalanklghmcajaaDoorPrSbK
namespace Go.Proofs.Sa
open Go Go.RowKit Go.Pl Go.Maps
theorem info25 : (Tryd.prog.info? 25).map (fun i => (i.zero, i.size, i.bytes)) = some (some (.agg #[.string ⟨#[]⟩, .string ⟨#[]⟩, .string ⟨#[]⟩, .slice none 0 0]), 4, 72) := by kernel_rfl
theorem grown_below {w w' : World} (h : w.grownBy w' none) : Below w.heap.size w w' := ⟨h.os, h.tape, h.output, h.size, fun k hk => h.block k hk (by simp)⟩
theorem cell_four_new (w : World) (a b c d : Value) (t : TypeId) : ∀ j u, [a, b, c, d][j]? = some u → (w.alloc (.cells #[a, b, c, d] t)).cell? ((⟨w.heap.size, 0, none⟩ : Addr).add j) = some u := by
  intro j u hu
  have hadd : (⟨w.heap.size, 0, none⟩ : Addr).add j = ⟨w.heap.size, j, none⟩ := by unfold Addr.add; split <;> simp_all
  rw [hadd]
  have hh : (w.alloc (.cells #[a, b, c, d] t)).heap[w.heap.size]? = some (.cells #[a, b, c, d] t (0, 0)) := heap_alloc_new w _
  simp only [World.cell?, hh]
  rw [← Array.getElem?_toList]; exact hu
theorem cellK {w w' : World} (hb : Below w.heap.size w w') {a : Addr} {v : Value} (h : w.cell? a = some v) : w'.cell? a = some v := (hb.cell (World.block_lt_of_cell? _ _ h)).trans h
/-- Where the law stands ahead of its loop. -/
structure Two (w : World) (g : Nat) (l more : List Sec) (ao bo : Option Addr) (n m : Nat) (a : Sec) (aa : Option Addr) (ca : Nat) (wx : World) : Prop where
  below : Below w.heap.size w wx
  sl : Secs wx ao n l
  sm : Secs wx bo m more
  ia : Ints wx aa a.n a.zs
  b0 : wx.cell? ⟨g, 0, none⟩ = some (.string a.c)
  b1 : wx.cell? ⟨g, 1, none⟩ = some (.string a.sv)
  b2 : wx.cell? ⟨g, 2, none⟩ = some (.string a.wd)
  b3 : wx.cell? ⟨g, 3, none⟩ = some (.slice aa a.n ca)
theorem Two.kept {w : World} {g : Nat} {l more : List Sec} {ao bo : Option Addr} {n m : Nat} {a : Sec} {aa : Option Addr} {ca : Nat} {wx w' : World} (h : Two w g l more ao bo n m a aa ca wx) (hb : Below wx.heap.size wx w') : Two w g l more ao bo n m a aa ca w' :=
  ⟨below_step h.below hb, h.sl.kept hb, h.sm.kept hb, h.ia.kept hb, cellK hb h.b0, cellK hb h.b1, cellK hb h.b2, cellK hb h.b3⟩
/-- What holds ahead of a round. -/
def Bst (w2 : World) (l more : List Sec) (K : Sec → Bool) (k : Nat) (v : Value) (wx : World) : Prop :=
  wx.ownsRow w2.heap.size 25 4 v (l.length + ((more.take k).filter K).length) (cellsL (l ++ (more.take k).filter K)) ∧ Below w2.heap.size w2 wx
theorem take_keep {more : List Sec} {K : Sec → Bool} {k : Nat} {x : Sec} (hx : more[k]? = some x) : (more.take (k + 1)).filter K = (more.take k).filter K ++ (if K x then [x] else []) := by
  rw [List.take_add_one, hx, List.filter_append]
  simp [List.filter_cons]
theorem Bst.len {w2 : World} {l more : List Sec} {K : Sec → Bool} {k m : Nat} {v : Value} {wx : World} (_h : Bst w2 l more K k v wx) (hk : k + 1 ≤ m) : ((more.take k).filter K).length + 1 ≤ m := by
  have h1 := List.length_filter_le K (more.take k)
  have h2 : (more.take k).length ≤ k := by simp; omega
  omega
theorem Bst.skip {w2 : World} {l more : List Sec} {K : Sec → Bool} {k : Nat} {v : Value} {wx : World} {x : Sec} (h : Bst w2 l more K k v wx) (hx : more[k]? = some x) (hK : K x = false) (o : Obj) : Bst w2 l more K (k + 1) v (wx.alloc o) := by
  unfold Bst
  rw [take_keep hx, hK]
  simpa using ⟨h.1.alloc o, h.2.alloc h.2.size o⟩
theorem Bst.more {w2 : World} {l more : List Sec} {K : Sec → Bool} {k : Nat} {v v5 : Value} {wx w5 : World} {x : Sec} (h : Bst w2 l more K k v wx) (hx : more[k]? = some x) (hK : K x = true) (o o' : Obj)
    (hown : w5.ownsRow w2.heap.size 25 4 v5 (l.length + ((more.take k).filter K).length + 1) (cellsL (l ++ (more.take k).filter K) ++ x.cells4)) (hg : ((wx.alloc o).alloc o').grownBy w5 v.ownBlock) : Bst w2 l more K (k + 1) v5 w5 := by
  unfold Bst
  rw [take_keep hx, hK]
  have hb := (h.2.alloc h.2.size o).alloc (by have := h.2.size; simp; omega) o'
  refine ⟨?_, hb.grown hg (by have := h.2.size; simp; omega) (fun j hj => (h.1.lt j hj).1)⟩
  rw [if_pos rfl, List.length_append, ← Nat.add_assoc, ← List.append_assoc, cellsL_append]
  simpa [cellsL] using hown
/-- A row of secrets is set behind nothing. -/
theorem wpList_append_first {P : Program} {w : World} {ops : Array Oper} {rest : List Oper} {o : Oper} {a : Act} {Q : Exit → Act → World → Prop} (hgd : o.guard = none) (s x : Operand) (t : TypeId)
    (ho : o.op = .call { callee := .builtin .append, args := #[s, x], argTypes := #[t, t] }) (e : TypeId) (i : TypeInfo) (z : Value) (ht : P.underlying t = some (.slice e)) (hi : P.info? e = some i) (hz : i.zero = some z)
    (hsize : i.size = 4) (hby : i.bytes = 72) (hzs : z.cells.size = 4) (hs : a.eval s = .slice none 0 0) (ao : Option Addr) (n c : Nat) (l : List Sec) (hx : a.eval x = .slice ao n c) (hS : Secs w ao n l) (hnil : ao = none → c = 0) (hn : n ≤ 1048576)
    (h : ∀ v' w', w'.ownsRow w.heap.size e 4 v' l.length (cellsL l) → Below w.heap.size w w' → wpList P ops Q rest (a.put o.dst v') w') : wpList P ops Q (o :: rest) a w := by
  cases ao with
  | none =>
    obtain rfl : n = 0 := by
      rcases Nat.eq_zero_or_pos n with h | h
      · exact h
      · obtain ⟨b', off', h1, _⟩ := hS.row h
        cases h1
    obtain rfl : c = 0 := hnil rfl
    obtain rfl : l = [] := List.length_eq_zero_iff.1 hS.len
    exact wpList_append_own_none hgd s x t ho w.heap.size e i 4 ht hi _ 0 [] hs (World.ownsRow_nil _ _ _ _) hx (h _ _ (World.ownsRow_nil _ _ _ _) (Below.refl _ _))
  | some ad =>
    have hl := hS.len
    refine wpList_append_own w hgd s x t ho w.heap.size e i z 4 72 ht hi hz hsize hby hzs (by decide) _ 0 [] hs (World.ownsRow_nil _ _ _ _) ad n c (cellsL l) hx (by rw [cellsL_len, hl]) (secs_news hS rfl) (cells_one l) (by unfold maxLen; omega) (by omega) (Nat.le_refl _) ?_
    intro v' w' hown hgrow _
    rw [List.nil_append, Nat.zero_add, ← hl] at hown
    exact h v' w' hown (grown_below hgrow)
set_option maxRecDepth 1000000 in
set_option maxHeartbeats 3200000 in
theorem best_law (ao bo : Option Addr) (n cap m cb : Nat) (l more : List Sec) (cl sv : ByteArray) (w : World) (hz : Secs w ao n l) (hm : Secs w bo m more) (hnm : n + m ≤ 1048576) (hns : ∀ x ∈ l, x.n ≤ 1048576) (hnil : ao = none → cap = 0)
    (hA : ∀ w', Below w.heap.size w w' → Calls Tryd.prog 6 #[] w' fun e w2 => e = .returned (.bool true) ∧ Below w'.heap.size w' w2) :
    Calls Tryd.prog 3 #[.slice ao n cap, .slice bo m cb, .string cl, .string sv] w fun e w' => e = .returned (.bool true) ∧ Below w.heap.size w w' := by
  obtain ⟨j0, hj0, hy0, hy1, hy2⟩ := info_parts info25
  have HFi := Lib.hid (find_any ao n cap l cl sv w hz (by omega))
  have HZ := Lib.hid hz
  have HM := Lib.hid hm
  have HA := Lib.hid hA
  have HNS := Lib.hid hns
  clear hz hm hA hns
  obtain ⟨a, ok, hF⟩ : ∃ a ok, foundR l cl sv = (a, ok) := ⟨_, _, rfl⟩
  have HF := Lib.hid hF
  clear hF
  go_enter Tryd.func3, Tryd.ntmps3
  go_upto_region 2 with (
    go_at_call 4
    refine HFi.out.mono ?_
    rintro e w1 ⟨aa, ca, rfl, hi1, hb1, _⟩
    rw [HF.out] at hi1 ⊢
    simp only at hi1 ⊢
    have HT : Hid (Two w w1.heap.size l more ao bo n m a aa ca (w1.alloc (.cells #[.string a.c, .string a.sv, .string a.wd, .slice aa a.n ca] 25))) := Lib.hid (by
      have hal : Below w1.heap.size w1 (w1.alloc (.cells #[.string a.c, .string a.sv, .string a.wd, .slice aa a.n ca] 25)) := (Below.refl _ _).alloc (Nat.le_refl _) _
      have h4 := cell_four_new w1 (.string a.c) (.string a.sv) (.string a.wd) (.slice aa a.n ca) 25
      simp only [Addr.add_lit] at h4
      have hbw := below_step hb1 hal
      exact ⟨hbw, HZ.out.kept hbw, HM.out.kept hbw, hi1.kept hal, h4 0 _ rfl, h4 1 _ rfl, h4 2 _ rfl, h4 3 _ rfl⟩)
    clear hi1 hb1 HFi)
  generalize (w1.alloc (.cells #[.string a.c, .string a.sv, .string a.wd, .slice aa a.n ca] 25)) = w2 at *
  generalize w1.heap.size = g9 at *
  go_upto_region 4 with (
    at_builtin
    refine wpList_append_first rfl _ _ 22 rfl 25 j0 _ Tryd.underlying22 hj0 hy0 hy1 hy2 rfl rfl ao n cap l rfl HT.out.sl hnil (by omega) ?_
    intro v3 w3 hown3 hb3
    have HW3 : Hid (w3.ownsRow w2.heap.size 25 4 v3 l.length (cellsL l) ∧ Below w2.heap.size w2 w3) := Lib.hid ⟨hown3, hb3⟩
    clear hown3 hb3)
  go_wp2
  go_loopg [11, 28] m (fun g s11 s28 wx => ∃ k : Nat, k + g = m ∧ s28 = .int .i64 k ∧ Hid (Bst w2 l more (keepB ok a cl sv) k s11 wx))
  case atStart => exact ⟨0, by omega, rfl, by simpa [Bst] using HW3⟩
  case round =>
    obtain ⟨k, hkg, rfl, HR⟩ := hrel
    cases gk with
    | zero =>
      obtain rfl : k = m := by omega
      have hall : more.take k = more := List.take_of_length_le (by rw [HM.out.len]; exact Nat.le_refl _)
      have HQ := Lib.hid (HT.out.kept HR.out.2)
      have hR := HR.out.1
      rw [hall] at hR
      have hsub : ∀ y ∈ l ++ more.filter (keepB ok a cl sv), Ints wr y.ao y.n y.zs := fun y hy => by
        rcases List.mem_append.1 hy with hy | hy
        · exact HQ.out.sl.ints y hy
        · exact HQ.out.sm.ints y (List.mem_filter.1 hy).1
      obtain ⟨ao2, cap2, rfl, hs2, _⟩ := secs_own (l := l ++ more.filter (keepB ok a cl sv)) hR hsub
      have hlen : l.length + (more.filter (keepB ok a cl sv)).length ≤ 1048576 := by
        have h1 := List.length_filter_le (keepB ok a cl sv) more
        have h2 := HM.out.len
        have h3 := HZ.out.len
        omega
      have HFi := Lib.hid (find_any ao2 _ cap2 _ cl sv wr hs2 hlen)
      have HG := Lib.hid (found_more HF.out (l' := more.filter (keepB ok a cl sv)) fun y hy => (List.mem_filter.1 hy).2)
      have HAN : Hid (a.n ≤ 1048576) := Lib.hid (by
        cases hok : ok with
        | true =>
          rw [hok] at HF
          exact HNS.out a (found_right HF.out).2.2.2
        | false =>
          rcases found_at HF.out with ⟨_, h, _⟩ | ⟨_, h, _⟩
          · rw [h]; exact Nat.zero_le _
          · rw [hok] at h; cases h)
      have HWB := Lib.hid (below_step HT.out.below HR.out.2)
      clear hR hsub hs2 hlen hall
      go_upto_region 11 with (
        go_at_call 4
        refine HFi.out.mono ?_
        rintro e w5 ⟨ab, cb2, rfl, hi5, hb5, _⟩
        rw [HG.out] at hi5 ⊢
        simp only at hi5 ⊢
        have hal : Below w5.heap.size w5 (w5.alloc (.cells #[.string a.c, .string a.sv, .string a.wd, .slice ab a.n cb2] 25)) := (Below.refl _ _).alloc (Nat.le_refl _) _
        have h4 := cell_four_new w5 (.string a.c) (.string a.sv) (.string a.wd) (.slice ab a.n cb2) 25
        simp only [Addr.add_lit] at h4
        have HQ5 := Lib.hid ((HQ.out.kept hb5).kept hal)
        have HI5 := Lib.hid (hi5.kept hal)
        have e0 := h4 0 _ rfl
        have e1 := h4 1 _ rfl
        have e2 := h4 2 _ rfl
        have e3 := h4 3 _ rfl
        clear hi5 hb5 hal h4 HFi)
      have b0 := HQ5.out.b0
      have b1 := HQ5.out.b1
      have b2 := HQ5.out.b2
      have b3 := HQ5.out.b3
      generalize (w5.alloc (.cells #[.string a.c, .string a.sv, .string a.wd, .slice ab a.n cb2] 25)) = w6 at *
      generalize w5.heap.size = g14 at *
      have HO : Hid (Calls Tryd.prog 5 #[.agg #[.string a.c, .string a.sv, .string a.wd, .slice aa a.n ca], .agg #[.string a.c, .string a.sv, .string a.wd, .slice ab a.n cb2]] w6 fun e w' => e = .returned (.bool true) ∧ Below w6.heap.size w6 w') := Lib.hid (by
        have := one_any ⟨a.c, a.sv, a.wd, aa, a.n, ca, a.zs⟩ ⟨a.c, a.sv, a.wd, ab, a.n, cb2, a.zs⟩ w6 HQ5.out.ia HI5.out HAN.out
        have he : oneR ⟨a.c, a.sv, a.wd, aa, a.n, ca, a.zs⟩ ⟨a.c, a.sv, a.wd, ab, a.n, cb2, a.zs⟩ = true := by simp [oneR, sameB]
        rwa [he] at this)
      cases ok with
      | false =>
        go_wp2_with (first
          | (go_at_call 5; refine HO.out.mono ?_; rintro e w7 ⟨rfl, hb7⟩; have HQ7 := Lib.hid (HQ5.out.kept hb7); clear hb7)
          | (go_at_call 6; refine (HA.out _ HQ7.out.below).mono ?_; rintro e w8 ⟨rfl, hb8⟩; have HQ8 := Lib.hid (HQ7.out.kept hb8); clear hb8))
        go_ret
        exact ⟨rfl, HQ8.out.below⟩
      | true =>
        obtain ⟨r1, r2, r3, _⟩ := found_right HF.out
        have HRi := Lib.hid (fun w' (h : Two w g9 l more ao bo n k a aa ca w') => right_any a.c a.sv a.wd aa a.n ca a.zs w' h.ia)
        have r1' : rightR a.c a.sv a.wd a.zs = 0 := r1
        go_upto_region 15 with (first
          | (go_at_call 5; refine HO.out.mono ?_; rintro e w7 ⟨rfl, hb7⟩; have HQ7 := Lib.hid (HQ5.out.kept hb7); clear hb7)
          | (go_at_call 6; refine (HA.out _ HQ7.out.below).mono ?_; rintro e w8 ⟨rfl, hb8⟩; have HQ8 := Lib.hid (HQ7.out.kept hb8); clear hb8))
        have b0' := HQ7.out.b0
        have b1' := HQ7.out.b1
        have b2' := HQ7.out.b2
        have b3' := HQ7.out.b3
        clear b0 b1 b2 b3 e0 e1 e2 e3
        cases hC : (a.c.toList == cl.toList) <;> cases hD : (a.c.toList == [42]) <;> cases hE : (a.sv.toList == sv.toList) <;> cases hF : (a.sv.toList == [42]) <;>
          first
          | (exfalso; simp only [sameB, starB, hC, hD] at r2; simp at r2; done)
          | (exfalso; simp only [sameB, starB, hE, hF] at r3; simp at r3; done)
          | (go_wp2_with (first
              | (go_at_call 7; refine (HRi.out _ HQ7.out).mono ?_; rintro e w8 ⟨rfl, hb8⟩; rw [r1']; have HQ8 := Lib.hid (HQ7.out.kept hb8); have c0 := HQ8.out.b0; have c1 := HQ8.out.b1; have c2 := HQ8.out.b2; have c3 := HQ8.out.b3; clear hb8)
              | (go_at_call 6; refine (HA.out _ HQ8.out.below).mono ?_; rintro e w9 ⟨rfl, hb9⟩; have HQ9 := Lib.hid (HQ8.out.kept hb9); clear hb9))
             go_ret
             exact ⟨rfl, HQ9.out.below⟩)
    | succ g =>
      have HQ := Lib.hid (HT.out.kept HR.out.2)
      have hk : (k : Int) < (m : Int) := by omega
      have hkl : k < more.length := by rw [HM.out.len]; omega
      obtain ⟨x, hx⟩ : ∃ x, more[k]? = some x := ⟨_, List.getElem?_eq_getElem hkl⟩
      obtain ⟨b, off, rfl, hb, hc⟩ := HQ.out.sm.row (by omega)
      obtain ⟨q0, q1, q2, q3⟩ := hc k x hx
      have HX := Lib.hid hx
      clear hc hx hkl
      have HB := Lib.hid (Box4.start wr (.string x.c) (.string x.sv) (.string x.wd) (.slice x.ao x.n x.cap) 25)
      have k0 := HB.out.k0
      have k1 := HB.out.k1
      have k2 := HB.out.k2
      have k3 := HB.out.k3
      have HQ2 := Lib.hid (HQ.out.kept ((Below.refl _ _).alloc (Nat.le_refl _) (.cells #[.string x.c, .string x.sv, .string x.wd, .slice x.ao x.n x.cap] 25)))
      have b0 := HQ2.out.b0
      have b1 := HQ2.out.b1
      go_upto_region 7 with fail
      go_cut [68] (fun s68 wx => s68 = .bool (keepB ok a cl sv x) ∧ wx = wr.alloc (.cells #[.string x.c, .string x.sv, .string x.wd, .slice x.ao x.n x.cap] 25))
      case first =>
        cases ok with
        | false =>
          cases hC : (x.c.toList == cl.toList) <;> cases hD : (x.c.toList == [42]) <;> cases hE : (x.sv.toList == sv.toList) <;> cases hF : (x.sv.toList == [42]) <;>
            (go_wp2
             go_meet
             exact ⟨by simp [keepB, starB, sameB, hC, hD, hE, hF], rfl⟩)
        | true =>
          cases hA : (x.c.toList == a.c.toList) <;> cases hB : (x.sv.toList == a.sv.toList) <;> cases hC : (x.c.toList == cl.toList) <;> cases hD : (x.c.toList == [42]) <;> cases hE : (x.sv.toList == sv.toList) <;> cases hF : (x.sv.toList == [42]) <;>
            (go_wp2
             go_meet
             exact ⟨by simp [keepB, starB, sameB, hA, hB, hC, hD, hE, hF], rfl⟩)
      case rest =>
        obtain ⟨rfl, rfl⟩ := hcut
        cases hK : keepB ok a cl sv x with
        | false =>
          have HS2 := Lib.hid (HR.out.skip HX.out hK (.cells #[.string x.c, .string x.sv, .string x.wd, .slice x.ao x.n x.cap] 25))
          go_wp2
          go_roundg g
          case measure => omega
          case rel => exact ⟨k + 1, by omega, by first | rfl | simp, HS2.out⟩
        | true =>
          have HS2 := Lib.hid (fun v5 w5 => HR.out.more (v5 := v5) (w5 := w5) HX.out hK (.cells #[.string x.c, .string x.sv, .string x.wd, .slice x.ao x.n x.cap] 25) (.cells #[.string x.c, .string x.sv, .string x.wd, .slice x.ao x.n x.cap] 25))
          have HL := Lib.hid (HR.out.len (m := m) (by omega))
          go_wp2_with (
            at_builtin
            refine wpList_append_own _ rfl _ _ 22 rfl w2.heap.size 25 j0 (.agg #[.string ⟨#[]⟩, .string ⟨#[]⟩, .string ⟨#[]⟩, .slice none 0 0]) 4 72 Tryd.underlying22 hj0 hy0 hy1 hy2 rfl (by decide) _ _ _ rfl ((HR.out.1.alloc _).alloc _) ⟨wr.heap.size + 1, 0, none⟩ 1 1 x.cells4 rfl rfl ?_ (fun u hu => by simp [Sec.cells4] at hu; rcases hu with rfl | rfl | rfl | rfl <;> rfl) (by unfold maxLen; have := HL.out; have := HZ.out.len; omega) (by have := HL.out; have := HZ.out.len; omega) (by have := HR.out.2.size; simp; omega) ?_
            · intro j u hu
              have := cell_four_new (wr.alloc (.cells #[.string x.c, .string x.sv, .string x.wd, .slice x.ao x.n x.cap] 25)) (.string x.c) (.string x.sv) (.string x.wd) (.slice x.ao x.n x.cap) 25 j u hu
              simpa using this
            intro v5 w5 hown5 hgrow5 _
            have HX5 := Lib.hid (HS2.out v5 w5 hown5 hgrow5)
            clear hown5 hgrow5)
          go_roundg g
          case measure => omega
          case rel => exact ⟨k + 1, by omega, by first | rfl | simp, HX5.out⟩
end Go.Proofs.Sa
