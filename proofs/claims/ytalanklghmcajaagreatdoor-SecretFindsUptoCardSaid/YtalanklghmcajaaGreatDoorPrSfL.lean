/- secrets: the law SecretFinds walked. -/
import Derived.Test.YtalanklghmcajaaGreatDoorPrSfP
namespace Go.Proofs.Sa
open Go Go.RowKit Go.Pl Go.Maps
theorem like_n {l l1 : List Sec} (h : AllLike l l1) {N : Nat} (hn : ∀ x ∈ l, x.n ≤ N) : ∀ y ∈ l1, y.n ≤ N := by
  induction l generalizing l1 with
  | nil => cases l1 with
    | nil => intro y hy; cases hy
    | cons _ _ => exact h.elim
  | cons x l ih => cases l1 with
    | nil => exact h.elim
    | cons z m =>
      intro y hy
      rcases List.mem_cons.1 hy with rfl | hy
      · rw [h.1.2.2.2.1]; exact hn x (List.mem_cons_self ..)
      · exact ih h.2 (fun x hx => hn x (List.mem_cons_of_mem _ hx)) y hy
theorem cellK' {w w' : World} (hb : Below w.heap.size w w') {a : Addr} {v : Value} (h : w.cell? a = some v) : w'.cell? a = some v := (hb.cell (World.block_lt_of_cell? _ _ h)).trans h
theorem sameL_refl : ∀ l : List Sec, sameL l l = true
  | [] => rfl
  | x :: l => by simp [sameL, sameL_refl l, oneR, sameB]
/-- What is given, and the copy. -/
structure Cps (w : World) (ao bo ao1 : Option Addr) (n mm cap1 : Nat) (l m l1 : List Sec) (C : Nat) (wx : World) : Prop where
  below : Below w.heap.size w wx
  sl : Secs wx ao n l
  sm : Secs wx bo mm m
  s1 : Secs wx ao1 n l1
  own1 : wx.ownsRow w.heap.size 24 4 (.slice ao1 n cap1) n (cellsL l1)
  i1 : ∀ y ∈ l1, Ints wx y.ao y.n y.zs ∧ OwnI w.heap.size wx y.ao
  far : (∀ a, ao1 = some a → a.block < C) ∧ ∀ y ∈ l1, ∀ a, y.ao = some a → a.block < C
  size : C ≤ wx.heap.size
theorem Cps.kept {w : World} {ao bo ao1 : Option Addr} {n mm cap1 : Nat} {l m l1 : List Sec} {C : Nat} {wx w' : World} (h : Cps w ao bo ao1 n mm cap1 l m l1 C wx) (hb : Below wx.heap.size wx w') : Cps w ao bo ao1 n mm cap1 l m l1 C w' :=
  ⟨below_step h.below hb, h.sl.kept hb, h.sm.kept hb, h.s1.kept hb, own_below h.own1 hb, fun y hy => ⟨(h.i1 y hy).1.kept hb, (h.i1 y hy).2.kept hb⟩, h.far, Nat.le_trans h.size hb.size⟩
/-- A found secret in a box. -/
structure Bxd (g : Nat) (a : Sec) (aa : Option Addr) (ca : Nat) (wx : World) : Prop where
  i : Ints wx aa a.n a.zs
  b0 : wx.cell? ⟨g, 0, none⟩ = some (.string a.c)
  b1 : wx.cell? ⟨g, 1, none⟩ = some (.string a.sv)
  b2 : wx.cell? ⟨g, 2, none⟩ = some (.string a.wd)
  b3 : wx.cell? ⟨g, 3, none⟩ = some (.slice aa a.n ca)
theorem Bxd.kept {g : Nat} {a : Sec} {aa : Option Addr} {ca : Nat} {wx w' : World} (h : Bxd g a aa ca wx) (hb : Below wx.heap.size wx w') : Bxd g a aa ca w' :=
  ⟨h.i.kept hb, cellK' hb h.b0, cellK' hb h.b1, cellK' hb h.b2, cellK' hb h.b3⟩
theorem Bxd.new {a : Sec} {aa : Option Addr} {ca : Nat} {w : World} (hi : Ints w aa a.n a.zs) : Bxd w.heap.size a aa ca (w.alloc (.cells #[.string a.c, .string a.sv, .string a.wd, .slice aa a.n ca] 24)) := by
  have h4 := cell_four_new w (.string a.c) (.string a.sv) (.string a.wd) (.slice aa a.n ca) 24
  simp only [Addr.add_lit] at h4
  exact ⟨hi.kept ((Below.refl _ _).alloc (Nat.le_refl _) _), h4 0 _ rfl, h4 1 _ rfl, h4 2 _ rfl, h4 3 _ rfl⟩
theorem like_trans : ∀ {l m r : List Sec}, AllLike l m → AllLike m r → AllLike l r
  | [], [], [], _, _ => trivial
  | [], [], _ :: _, _, h => h.elim
  | [], _ :: _, _, h, _ => h.elim
  | _ :: _, [], _, h, _ => h.elim
  | _ :: _, _ :: _, [], _, h => h.elim
  | _ :: _, _ :: _, _ :: _, h, h' => ⟨⟨h'.1.1.trans h.1.1, h'.1.2.1.trans h.1.2.1, h'.1.2.2.1.trans h.1.2.2.1, h'.1.2.2.2.1.trans h.1.2.2.2.1, h'.1.2.2.2.2.trans h.1.2.2.2.2⟩, like_trans h.2 h'.2⟩
theorem Spl.narrow {B C C' g : Nat} {l : List Sec} {w : World} (h : Spl B C g l w w) (hg : g < C') (hl : ∀ y ∈ l, ∀ a, y.ao = some a → a.block < C') : Spl B C' g l w w :=
  ⟨Only.refl _ _ _, ⟨h.gb.1, hg⟩, h.row, fun y hy h0 => by
    obtain ⟨b, off, cur, e1, e2, _, e4, e5⟩ := h.nums y hy h0
    exact ⟨b, off, cur, e1, e2, hl y hy _ e1, e4, e5⟩⟩
theorem spoil_own {w : World} {ao bo ao1 : Option Addr} {n mm cap1 : Nat} {l m l1 : List Sec} {C : Nat} {wx : World} (h : Cps w ao bo ao1 n mm cap1 l m l1 C wx) (hn : n ≤ 1048576) (hns : ∀ y ∈ l1, y.n ≤ 1048576) :
    Calls Tryz.prog 22 #[.slice ao1 n cap1] wx fun e w2 => e = .returned (.tuple #[]) ∧ Only w.heap.size C wx w2 := by
  rcases spl_own h.own1 h.i1 with ⟨rfl, rfl, rfl⟩ | ⟨g, rfl, hl, hs⟩
  · refine (spoil_nil wx).mono ?_
    rintro e w2 ⟨rfl, rfl⟩
    exact ⟨rfl, Only.refl _ _ _⟩
  · have := spoil_any w.heap.size C g cap1 l1 wx (hs.narrow (h.far.1 _ rfl) h.far.2) (by omega) hns
    rwa [hl] at this
theorem spoil_one (w : World) (B : Nat) (y : Sec) (hB : B ≤ w.heap.size) (hi : Ints w y.ao y.n y.zs) (ho : OwnI B w y.ao) (hn : y.n ≤ 1048576) :
    Calls Tryz.prog 22 #[.slice (some ⟨w.heap.size, 0, none⟩) 1 1] (w.alloc (.cells #[.string y.c, .string y.sv, .string y.wd, .slice y.ao y.n y.cap] 24)) fun e w2 => e = .returned (.tuple #[]) ∧ ∃ C, Only B C (w.alloc (.cells #[.string y.c, .string y.sv, .string y.wd, .slice y.ao y.n y.cap] 24)) w2 := by
  have hal : Below w.heap.size w (w.alloc (.cells #[.string y.c, .string y.sv, .string y.wd, .slice y.ao y.n y.cap] 24)) := (Below.refl _ _).alloc (Nat.le_refl _) _
  have hown : (w.alloc (.cells #[.string y.c, .string y.sv, .string y.wd, .slice y.ao y.n y.cap] 24)).ownsRow B 24 4 (.slice (some ⟨w.heap.size, 0, none⟩) 1 1) 1 (cellsL [y]) :=
    ⟨rfl, .inr ⟨w.heap.size, 1, _, rfl, hB, heap_alloc_new w _, Nat.le_refl _, by decide, rfl, rfl⟩⟩
  rcases spl_own hown (fun z hz => by obtain rfl := List.mem_singleton.1 hz; exact ⟨hi.kept hal, ho.kept hal⟩) with ⟨h, _⟩ | ⟨g, hg, _, hs⟩
  · cases h
  · cases hg
    refine (spoil_any B _ w.heap.size 1 [y] _ hs (by simp) (fun z hz => by obtain rfl := List.mem_singleton.1 hz; exact hn)).mono ?_
    rintro e w2 ⟨rfl, h⟩
    exact ⟨rfl, _, h⟩
/-- Where the law stands once its copy is spoilt. -/
structure Fin9 (w : World) (t n : Nat) (v : Value) (l2 l : List Sec) (ao : Option Addr) (g16 : Nat) (a : Sec) (ab : Option Addr) (cb2 : Nat) (wx : World) : Prop where
  below : Below w.heap.size w wx
  sl : Secs wx ao n l
  tb : Tb t n v l2 wx
  bx : Bxd g16 a ab cb2 wx
theorem Fin9.kept {w : World} {t n : Nat} {v : Value} {l2 l : List Sec} {ao : Option Addr} {g16 : Nat} {a : Sec} {ab : Option Addr} {cb2 : Nat} {wx w' : World} (h : Fin9 w t n v l2 l ao g16 a ab cb2 wx) (hb : Below wx.heap.size wx w') : Fin9 w t n v l2 l ao g16 a ab cb2 w' :=
  ⟨below_step h.below hb, h.sl.kept hb, h.tb.kept hb, h.bx.kept hb⟩
theorem Bxd.only {g : Nat} {a : Sec} {aa : Option Addr} {ca : Nat} {wx w' : World} {B C : Nat} (h : Bxd g a aa ca wx) (ho : Only B C wx w') (hC : C ≤ g) (hi : Ints w' aa a.n a.zs) : Bxd g a aa ca w' :=
  ⟨hi, ho.cell h.b0 hC, ho.cell h.b1 hC, ho.cell h.b2 hC, ho.cell h.b3 hC⟩
set_option maxRecDepth 1000000 in
set_option maxHeartbeats 6400000 in
theorem finds_law (ao bo : Option Addr) (n cap mm cb : Nat) (l m : List Sec) (cl sv word : ByteArray) (adr : Int) (w : World) (hz : Secs w ao n l) (hm : Secs w bo mm m) (hn : n ≤ 1048576) (hns : ∀ x ∈ l, x.n ≤ 1048576) (hnl : ∀ x ∈ l, x.ao = none → x.cap = 0) (hr : Room l)
    (hA : ∀ w', Below w.heap.size w w' → Calls Tryz.prog 13 #[] w' fun e w2 => e = .returned (.bool true) ∧ Below w'.heap.size w' w2) :
    Calls Tryz.prog 4 #[.slice ao n cap, .slice bo mm cb, .string cl, .string sv, .string word, .int .i64 adr] w fun e w' => e = .returned (.bool true) ∧ Below w.heap.size w w' := by
  have HCo := Lib.hid (copied_any ao n cap l w hz hn hns hnl)
  have HZ := Lib.hid hz
  have HM := Lib.hid hm
  have HA := Lib.hid hA
  have HNS := Lib.hid hns
  have HRm := Lib.hid hr
  clear hz hm hA hns hnl hr
  obtain ⟨a, ok, hF⟩ : ∃ a ok, foundR l cl sv = (a, ok) := ⟨_, _, rfl⟩
  have HF := Lib.hid hF
  have HAN : Hid (a.n ≤ 1048576) := Lib.hid (by
    rcases found_mem hF with rfl | h
    · exact Nat.zero_le _
    · exact HNS.out a h)
  clear hF
  go_enter Tryz.func4, Tryz.ntmps4
  go_upto_region 2 with (
    go_at_call 5
    refine HCo.out.mono ?_
    rintro e w1 ⟨v1, l1, rfl, hlk, hown, hi1, hb1⟩
    rw [List.take_of_length_le (by rw [HZ.out.len]; exact Nat.le_refl _)] at hlk
    obtain ⟨ao1, cap1, rfl, hs1, _⟩ := secs_own hown (fun y hy => (hi1 y hy).1)
    have HL := Lib.hid hlk
    have HC : Hid (Cps w ao bo ao1 n mm cap1 l m l1 w1.heap.size w1) := Lib.hid ⟨hb1, HZ.out.kept hb1, HM.out.kept hb1, hs1, hown, fun y hy => ⟨(hi1 y hy).1, (hi1 y hy).2.1⟩,
      ⟨fun ad had => by subst had; exact (hown.lt ad.block rfl).2, fun y hy ad had => by
        obtain ⟨_, _, h2⟩ := (hi1 y hy).2.1 ad had
        exact (Array.getElem?_eq_some_iff.1 h2).1⟩, Nat.le_refl _⟩
    clear hlk hown hi1 hb1 hs1 HCo)
  generalize hC1 : w1.heap.size = C1 at *
  have HC1 := Lib.hid hC1
  clear hC1
  obtain ⟨a', hF', hla⟩ := like_found HL.out HF.out
  obtain ⟨c', s', d', o', n', p', z'⟩ := a'
  obtain ⟨rfl, rfl, rfl, rfl, rfl⟩ := hla
  have HF1 := Lib.hid hF'
  clear hF'
  have HFi := Lib.hid (find_any ao1 n cap1 l1 cl sv w1 HC.out.s1 hn)
  go_upto_region 3 with (
    go_at_call 14
    refine HFi.out.mono ?_
    rintro e w2 ⟨aa, ca, rfl, hi2, hb2, _⟩
    rw [HF1.out] at hi2 ⊢
    simp only at hi2 ⊢
    have hal : Below w2.heap.size w2 (w2.alloc (.cells #[.string a.c, .string a.sv, .string a.wd, .slice aa a.n ca] 24)) := (Below.refl _ _).alloc (Nat.le_refl _) _
    have HB14 := Lib.hid (Bxd.new (a := a) (ca := ca) hi2)
    have HC3 := Lib.hid ((HC.out.kept hb2).kept hal)
    clear hi2 hb2 hal HFi)
  generalize (w2.alloc (.cells #[.string a.c, .string a.sv, .string a.wd, .slice aa a.n ca] 24)) = w3 at *
  generalize w2.heap.size = g14 at *
  have HRf := Lib.hid (rfind_any ao n cap l cl sv w3 HC3.out.sl hn HRm.out)
  go_upto_region 4 with (
    go_at_call 15
    refine HRf.out.mono ?_
    rintro e w4 ⟨ab, cb2, rfl, hi4, hb4, hwh⟩
    rw [HF.out] at hi4 hwh ⊢
    simp only at hi4 hwh ⊢
    have hal : Below w4.heap.size w4 (w4.alloc (.cells #[.string a.c, .string a.sv, .string a.wd, .slice ab a.n cb2] 24)) := (Below.refl _ _).alloc (Nat.le_refl _) _
    have HB16 := Lib.hid (Bxd.new (a := a) (ca := cb2) hi4)
    have HB14' := Lib.hid ((HB14.out.kept hb4).kept hal)
    have HC5 := Lib.hid ((HC3.out.kept hb4).kept hal)
    have HWH := Lib.hid hwh
    have HG16 : Hid (C1 ≤ w4.heap.size) := Lib.hid (Nat.le_trans HC3.out.size hb4.size)
    clear hi4 hb4 hal hwh HRf)
  generalize (w4.alloc (.cells #[.string a.c, .string a.sv, .string a.wd, .slice ab a.n cb2] 24)) = w5 at *
  generalize w4.heap.size = g16 at *
  clear HB14 HC3
  obtain ⟨bs, hbs⟩ : ∃ b, sameL l m = b := ⟨_, rfl⟩
  obtain ⟨bl, hbl⟩ : ∃ b, allowedR a.zs adr = b := ⟨_, rfl⟩
  have HST : Hid (∀ w', Hid (Cps w ao bo ao1 n mm cap1 l m l1 C1 w' ∧ Bxd g14 a aa ca w' ∧ Bxd g16 a ab cb2 w') →
      Calls Tryz.prog 12 #[.agg #[.string a.c, .string a.sv, .string a.wd, .slice aa a.n ca], .agg #[.string a.c, .string a.sv, .string a.wd, .slice ab a.n cb2]] w' (fun e w2 => e = .returned (.bool true) ∧ Below w'.heap.size w' w2) ∧
      Calls Tryz.prog 16 #[.slice ao1 n cap1, .slice ao n cap] w' (fun e w2 => e = .returned (.bool true) ∧ Below w'.heap.size w' w2) ∧
      Calls Tryz.prog 17 #[.slice ao1 n cap1, .slice bo mm cb] w' (fun e w2 => e = .returned (.bool bs) ∧ Below w'.heap.size w' w2) ∧
      Calls Tryz.prog 16 #[.slice ao n cap, .slice bo mm cb] w' (fun e w2 => e = .returned (.bool bs) ∧ Below w'.heap.size w' w2) ∧
      Calls Tryz.prog 18 #[.agg #[.string a.c, .string a.sv, .string a.wd, .slice aa a.n ca], .int .i64 adr] w' (fun e w2 => e = .returned (.bool bl) ∧ Below w'.heap.size w' w2) ∧
      Calls Tryz.prog 19 #[.agg #[.string a.c, .string a.sv, .string a.wd, .slice ab a.n cb2], .int .i64 adr] w' (fun e w2 => e = .returned (.bool bl) ∧ Below w'.heap.size w' w2)) := Lib.hid fun w' h => by
    obtain ⟨h1, h2, h3⟩ := h.out
    have hn1 := like_n HL.out HNS.out
    have hself : sameL l1 l = true := by rw [like_same HL.out]; exact sameL_refl l
    refine ⟨?_, ?_, ?_, ?_, ?_, ?_⟩
    · have := one_any ⟨a.c, a.sv, a.wd, aa, a.n, ca, a.zs⟩ ⟨a.c, a.sv, a.wd, ab, a.n, cb2, a.zs⟩ w' h2.i h3.i HAN.out
      have he : oneR ⟨a.c, a.sv, a.wd, aa, a.n, ca, a.zs⟩ ⟨a.c, a.sv, a.wd, ab, a.n, cb2, a.zs⟩ = true := by simp [oneR, sameB]
      rwa [he] at this
    · have := rsame_any ao1 ao n cap1 n cap l1 l w' h1.s1 h1.sl hn hn1
      rwa [hself] at this
    · have := same_any ao1 bo n cap1 mm cb l1 m w' h1.s1 h1.sm hn hn1
      rwa [like_same HL.out, hbs] at this
    · have := rsame_any ao bo n cap mm cb l m w' h1.sl h1.sm hn HNS.out
      rwa [hbs] at this
    · have := allowed_any a.c a.sv a.wd aa a.n ca a.zs adr w' h2.i HAN.out
      rwa [hbl] at this
    · have := rallowed_any a.c a.sv a.wd ab a.n cb2 a.zs adr w' h3.i HAN.out
      rwa [hbl] at this
  have HKP : Hid (∀ w' w'', Hid (Cps w ao bo ao1 n mm cap1 l m l1 C1 w' ∧ Bxd g14 a aa ca w' ∧ Bxd g16 a ab cb2 w') → Below w'.heap.size w' w'' → Hid (Cps w ao bo ao1 n mm cap1 l m l1 C1 w'' ∧ Bxd g14 a aa ca w'' ∧ Bxd g16 a ab cb2 w'')) :=
    Lib.hid fun w' w'' h hb => Lib.hid ⟨h.out.1.kept hb, h.out.2.1.kept hb, h.out.2.2.kept hb⟩
  have HS5 : Hid (Cps w ao bo ao1 n mm cap1 l m l1 C1 w5 ∧ Bxd g14 a aa ca w5 ∧ Bxd g16 a ab cb2 w5) := Lib.hid ⟨HC5.out, HB14'.out, HB16.out⟩
  have HSd := HKP.out w5 w5.drew HS5 ⟨rfl, rfl, rfl, Nat.le_refl _, fun _ _ => rfl⟩
  have HALL : Hid (∀ w', Hid (Cps w ao bo ao1 n mm cap1 l m l1 C1 w' ∧ Bxd g14 a aa ca w' ∧ Bxd g16 a ab cb2 w') →
      w'.cell? ⟨g14, 0, none⟩ = some (.string a.c) ∧ w'.cell? ⟨g14, 1, none⟩ = some (.string a.sv) ∧ w'.cell? ⟨g14, 2, none⟩ = some (.string a.wd) ∧ w'.cell? ⟨g14, 3, none⟩ = some (.slice aa a.n ca) ∧
      w'.cell? ⟨g16, 0, none⟩ = some (.string a.c) ∧ w'.cell? ⟨g16, 1, none⟩ = some (.string a.sv) ∧ w'.cell? ⟨g16, 2, none⟩ = some (.string a.wd) ∧ w'.cell? ⟨g16, 3, none⟩ = some (.slice ab a.n cb2) ∧
      Hid (Cps w ao bo ao1 n mm cap1 l m l1 C1 w' ∧ Bxd g14 a aa ca w' ∧ Bxd g16 a ab cb2 w')) :=
    Lib.hid fun w' h => ⟨h.out.2.1.b0, h.out.2.1.b1, h.out.2.1.b2, h.out.2.1.b3, h.out.2.2.b0, h.out.2.2.b1, h.out.2.2.b2, h.out.2.2.b3, h⟩
  have b0 := HB14'.out.b0
  have b1 := HB14'.out.b1
  have b2 := HB14'.out.b2
  have b3 := HB14'.out.b3
  have c0 := HB16.out.b0
  have c1 := HB16.out.b1
  have c2 := HB16.out.b2
  have c3 := HB16.out.b3
  have hbb : (bs != bs) = false := by cases bs <;> rfl
  have hll : (bl != bl) = false := by cases bl <;> rfl
  have hkk : (ok != ok) = false := by cases ok <;> rfl
  clear HC5 hbs hbl
  go_region_held3 (fun w' => w'.cell? ⟨g14, 0, none⟩ = some (.string a.c) ∧ w'.cell? ⟨g14, 1, none⟩ = some (.string a.sv) ∧ w'.cell? ⟨g14, 2, none⟩ = some (.string a.wd) ∧ w'.cell? ⟨g14, 3, none⟩ = some (.slice aa a.n ca) ∧
      w'.cell? ⟨g16, 0, none⟩ = some (.string a.c) ∧ w'.cell? ⟨g16, 1, none⟩ = some (.string a.sv) ∧ w'.cell? ⟨g16, 2, none⟩ = some (.string a.wd) ∧ w'.cell? ⟨g16, 3, none⟩ = some (.slice ab a.n cb2) ∧
      Hid (Cps w ao bo ao1 n mm cap1 l m l1 C1 w' ∧ Bxd g14 a aa ca w' ∧ Bxd g16 a ab cb2 w'))
    (first | exact HALL.out _ HS2 | exact HALL.out _ HSd)
    (first
      | (go_at_call 12; (obtain ⟨_, _, _, _, _, _, _, _, HSx⟩ := ‹_ ∧ _ ∧ _ ∧ _ ∧ _ ∧ _ ∧ _ ∧ _ ∧ Hid _›); refine (HST.out _ HSx).1.mono ?_; rintro e w6 ⟨rfl, hb⟩; have HS2 := HKP.out _ _ HSx hb; clear hb HSx)
      | (go_at_call 16; (obtain ⟨_, _, _, _, _, _, _, _, HSx⟩ := ‹_ ∧ _ ∧ _ ∧ _ ∧ _ ∧ _ ∧ _ ∧ _ ∧ Hid _›); with_reducible refine (HST.out _ HSx).2.1.mono ?_; rintro e w6 ⟨rfl, hb⟩; have HS2 := HKP.out _ _ HSx hb; clear hb HSx)
      | (go_at_call 17; (obtain ⟨_, _, _, _, _, _, _, _, HSx⟩ := ‹_ ∧ _ ∧ _ ∧ _ ∧ _ ∧ _ ∧ _ ∧ _ ∧ Hid _›); refine (HST.out _ HSx).2.2.1.mono ?_; rintro e w6 ⟨rfl, hb⟩; have HS2 := HKP.out _ _ HSx hb; clear hb HSx)
      | (go_at_call 16; (obtain ⟨_, _, _, _, _, _, _, _, HSx⟩ := ‹_ ∧ _ ∧ _ ∧ _ ∧ _ ∧ _ ∧ _ ∧ _ ∧ Hid _›); with_reducible refine (HST.out _ HSx).2.2.2.1.mono ?_; rintro e w6 ⟨rfl, hb⟩; have HS2 := HKP.out _ _ HSx hb; clear hb HSx)
      | (go_at_call 18; (obtain ⟨_, _, _, _, _, _, _, _, HSx⟩ := ‹_ ∧ _ ∧ _ ∧ _ ∧ _ ∧ _ ∧ _ ∧ _ ∧ Hid _›); refine (HST.out _ HSx).2.2.2.2.1.mono ?_; rintro e w6 ⟨rfl, hb⟩; have HS2 := HKP.out _ _ HSx hb; clear hb HSx)
      | (go_at_call 19; (obtain ⟨_, _, _, _, _, _, _, _, HSx⟩ := ‹_ ∧ _ ∧ _ ∧ _ ∧ _ ∧ _ ∧ _ ∧ _ ∧ Hid _›); refine (HST.out _ HSx).2.2.2.2.2.mono ?_; rintro e w6 ⟨rfl, hb⟩; have HS2 := HKP.out _ _ HSx hb; clear hb HSx))
  obtain ⟨_, _, _, _, _, _, _, _, HSx⟩ := ‹_ ∧ _ ∧ _ ∧ _ ∧ _ ∧ _ ∧ _ ∧ _ ∧ Hid _›
  clear HST HKP HS5 HSd HALL b0 b1 b2 b3 c0 c1 c2 c3 hbb hll HF1
  have hn1 := like_n HL.out HNS.out
  have HN1 := Lib.hid hn1
  clear hn1
  obtain ⟨k1, k2, hk⟩ : ∃ k1 k2, wrongR l = (k1, k2) := ⟨_, _, rfl⟩
  have HK := Lib.hid hk
  have hk' := like_wrong HL.out
  rw [hk] at hk'
  have HK1 := Lib.hid hk'
  clear hk hk'
  have e1 : (k1 != k1) = false := by simp
  have e2 : (k2 != k2) = false := by simp
  cases hz0 : (k1 == 0) with
  | false =>
    have HNw := Lib.hid (fun w' (h : Cps w ao bo ao1 n mm cap1 l m l1 C1 w') => new_bad ao1 n cap1 l1 w' h.s1 (by rw [HK1.out]; simpa using hz0))
    have HFw := Lib.hid (fun w' (h : Cps w ao bo ao1 n mm cap1 l m l1 C1 w') => fault_any ao n cap l w' h.sl HRm.out)
    go_wp2_with (first
      | (go_at_call 20; refine (HNw.out _ HSx.out.1).mono ?_; rintro e w7 ⟨rfl, hb7⟩; rw [HK1.out]; simp only; have HC7 := Lib.hid (HSx.out.1.kept hb7); clear hb7)
      | (go_at_call 21; refine (HFw.out _ HC7.out).mono ?_; rintro e w8 ⟨rfl, hb8⟩; rw [HK.out]; simp only; have HC8 := Lib.hid (HC7.out.kept hb8); clear hb8)
      | (go_at_call 22; refine (spoil_own HC8.out hn HN1.out).mono ?_; rintro e w9 ⟨rfl, ho9⟩; have HB9 := Lib.hid (ho9.below HC8.out.below (Nat.le_refl _)); clear ho9)
      | (go_at_call 13; refine (HA.out _ HB9.out).mono ?_; rintro e w10 ⟨rfl, hb10⟩; have HB10 := Lib.hid (below_step HB9.out hb10); clear hb10))
    go_ret
    exact ⟨rfl, HB10.out⟩
  | true =>
    obtain rfl : k1 = 0 := by simpa using hz0
    have hw1 : wrongR l1 = (0, 0) := wrong_zero (by rw [HK1.out])
    obtain rfl : k2 = 0 := by
      have := HK1.out.symm.trans hw1
      simpa using this
    have HNw := Lib.hid (fun w' (h : Cps w ao bo ao1 n mm cap1 l m l1 C1 w') => new_good ao1 n cap1 l1 w' h.s1 hn HN1.out hw1)
    have HFw := Lib.hid (fun w' (h : Cps w ao bo ao1 n mm cap1 l m l1 C1 w') => fault_any ao n cap l w' h.sl HRm.out)
    clear hw1
    go_upto_region 13 with (first
      | (go_at_call 20
         refine (HNw.out _ HSx.out.1).mono ?_
         rintro e w7 ⟨t, v, l2, rfl, hN⟩
         have hlk := hN.like
         rw [List.take_of_length_le (by rw [HSx.out.1.s1.len]; exact Nat.le_refl _)] at hlk
         have HL2 := Lib.hid (like_trans HL.out hlk)
         have HCT : Hid (C1 ≤ t) := Lib.hid (Nat.le_trans HSx.out.1.size hN.tb)
         have HT7 : Hid (Tb t n v l2 w7) := Lib.hid ⟨hN.cell, hN.own, hN.ints⟩
         have HX7 := Lib.hid (HSx.out.2.2.kept hN.below)
         have HC7 := Lib.hid (HSx.out.1.kept hN.below)
         clear hN hlk)
      | (go_at_call 21
         refine (HFw.out _ HC7.out).mono ?_
         rintro e w8 ⟨rfl, hb8⟩
         rw [HK.out]
         simp only
         have HC8 := Lib.hid (HC7.out.kept hb8)
         have HT8 := Lib.hid (HT7.out.kept hb8)
         have HX8 := Lib.hid (HX7.out.kept hb8)
         clear hb8)
      | (go_at_call 22
         refine (spoil_own HC8.out hn HN1.out).mono ?_
         rintro e w9 ⟨rfl, ho9⟩
         have HX9 : Hid (Fin9 w t n v l2 l ao g16 a ab cb2 w9) := Lib.hid (by
           have hb := ho9.below HC8.out.below (Nat.le_refl _)
           have hs := HZ.out.kept hb
           refine ⟨hb, hs, HT8.out.only ho9 HCT.out, HX8.out.only ho9 HG16.out ?_⟩
           rcases HWH.out with ⟨h1, h2, h3⟩ | ⟨y, hy, h1, h2, h3⟩
           · rw [h1, h2, h3]; exact ints_nil _
           · rw [← h1, ← h2, ← h3]; exact hs.ints y hy)
         clear ho9 HT8 HX8 HC8 HX7 HC7 HT7))
    obtain ⟨ao2, cap2, rfl, htab⟩ := HX9.out.tb.tab
    obtain ⟨a2, hF2, hla2⟩ := like_found HL2.out HF.out
    obtain ⟨c', s', d', o', n', p', z'⟩ := a2
    obtain ⟨rfl, rfl, rfl, rfl, rfl⟩ := hla2
    have HF2 := Lib.hid hF2
    have HTF := Lib.hid (tfind_any t ao2 n cap2 l2 cl sv w9 htab hn)
    clear hF2 htab
    go_upto_region 14 with (
      go_at_call 23
      refine HTF.out.mono ?_
      rintro e w10 ⟨ac, cc, rfl, hi10, hb10, ho10⟩
      rw [HF2.out] at hi10 ⊢
      simp only at hi10 ⊢
      have hal : Below w10.heap.size w10 (w10.alloc (.cells #[.string a.c, .string a.sv, .string a.wd, .slice ac a.n cc] 24)) := (Below.refl _ _).alloc (Nat.le_refl _) _
      have HB23 := Lib.hid (Bxd.new (a := a) (ca := cc) hi10)
      have HB11 := Lib.hid (below_step hb10 hal)
      have HO11 := Lib.hid (ho10.kept hal)
      clear hi10 hb10 hal ho10 HTF)
    generalize (w10.alloc (.cells #[.string a.c, .string a.sv, .string a.wd, .slice ac a.n cc] 24)) = w11 at *
    generalize w10.heap.size = g23 at *
    have HX11 := Lib.hid (HX9.out.kept HB11.out)
    have HOne : Hid (∀ w' (ax : Option Addr) (cx : Nat), Ints w' ax a.n a.zs → Ints w' ab a.n a.zs → Calls Tryz.prog 12 #[.agg #[.string a.c, .string a.sv, .string a.wd, .slice ax a.n cx], .agg #[.string a.c, .string a.sv, .string a.wd, .slice ab a.n cb2]] w' fun e w2 => e = .returned (.bool true) ∧ Below w'.heap.size w' w2) := Lib.hid fun w' ax cx h1 h2 => by
      have := one_any ⟨a.c, a.sv, a.wd, ax, a.n, cx, a.zs⟩ ⟨a.c, a.sv, a.wd, ab, a.n, cb2, a.zs⟩ w' h1 h2 HAN.out
      have he : oneR ⟨a.c, a.sv, a.wd, ax, a.n, cx, a.zs⟩ ⟨a.c, a.sv, a.wd, ab, a.n, cb2, a.zs⟩ = true := by simp [oneR, sameB]
      rwa [he] at this
    have b0 := HB23.out.b0
    have b1 := HB23.out.b1
    have b2 := HB23.out.b2
    have b3 := HB23.out.b3
    have c0 := HX11.out.bx.b0
    have c1 := HX11.out.bx.b1
    have c2 := HX11.out.bx.b2
    have c3 := HX11.out.bx.b3
    go_upto_region 16 with (
      go_at_call 12
      refine (HOne.out _ ac cc HB23.out.i HX11.out.bx.i).mono ?_
      rintro e w12 ⟨rfl, hb12⟩
      have HB12 := Lib.hid (below_step HB11.out hb12)
      have HB23' := Lib.hid (HB23.out.kept hb12)
      have HO12 := Lib.hid (HO11.out.kept hb12)
      clear hb12)
    clear b0 b1 b2 b3 c0 c1 c2 c3
    have b0 := HB23'.out.b0
    have b1 := HB23'.out.b1
    have b2 := HB23'.out.b2
    have b3 := HB23'.out.b3
    have HSp := Lib.hid (spoil_one w12 w9.heap.size ⟨a.c, a.sv, a.wd, ac, a.n, cc, a.zs⟩ HB12.out.size HB23'.out.i HO12.out HAN.out)
    go_upto_region 17 with (
      go_at_call 22
      refine HSp.out.mono ?_
      rintro e w13 ⟨rfl, C2, ho13⟩
      have HX13 := Lib.hid (HX9.out.kept (ho13.below (below_step HB12.out ((Below.refl _ _).alloc (Nat.le_refl _) _)) (Nat.le_refl _)))
      clear ho13 HSp)
    clear b0 b1 b2 b3
    obtain ⟨ao3, cap3, he3, htab3⟩ := HX13.out.tb.tab
    simp only [Value.slice.injEq] at he3
    obtain ⟨rfl, _, rfl⟩ := he3
    have HTF := Lib.hid (tfind_any t ao2 n cap2 l2 cl sv w13 htab3 hn)
    clear htab3
    go_upto_region 18 with (
      go_at_call 23
      refine HTF.out.mono ?_
      rintro e w14 ⟨ad, cd, rfl, hi14, hb14, _⟩
      rw [HF2.out] at hi14 ⊢
      simp only at hi14 ⊢
      have hal : Below w14.heap.size w14 (w14.alloc (.cells #[.string a.c, .string a.sv, .string a.wd, .slice ad a.n cd] 24)) := (Below.refl _ _).alloc (Nat.le_refl _) _
      have HB25 := Lib.hid (Bxd.new (a := a) (ca := cd) hi14)
      have HX15 := Lib.hid (HX13.out.kept (below_step hb14 hal))
      clear hi14 hb14 hal HTF)
    generalize (w14.alloc (.cells #[.string a.c, .string a.sv, .string a.wd, .slice ad a.n cd] 24)) = w15 at *
    generalize w14.heap.size = g25 at *
    have b0 := HB25.out.b0
    have b1 := HB25.out.b1
    have b2 := HB25.out.b2
    have b3 := HB25.out.b3
    have c0 := HX15.out.bx.b0
    have c1 := HX15.out.bx.b1
    have c2 := HX15.out.bx.b2
    have c3 := HX15.out.bx.b3
    obtain ⟨kk, hkk2⟩ : ∃ k, checkR l cl sv word = k := ⟨_, rfl⟩
    have hck2 := like_check (cl := cl) (sv := sv) (word := word) HL2.out
    rw [hkk2] at hck2
    have HCk : Hid (∀ w', Tb t n (.slice ao2 n cap2) l2 w' → Calls Tryz.prog 24 #[.pointer (some ⟨t, 0, none⟩), .string cl, .string sv, .string word] w' fun e w2 => e = .returned (.int .i64 kk) ∧ Below w'.heap.size w' w2) := Lib.hid fun w' h => by
      obtain ⟨ao3, cap3, he3, htab3⟩ := h.tab
      simp only [Value.slice.injEq] at he3
      obtain ⟨rfl, _, rfl⟩ := he3
      have := check_any t ao2 n cap2 l2 cl sv word w' htab3 hn
      rwa [hck2] at this
    have HRk : Hid (∀ w', Secs w' ao n l → Calls Tryz.prog 25 #[.slice ao n cap, .string cl, .string sv, .string word] w' fun e w2 => e = .returned (.int .i64 kk) ∧ Below w'.heap.size w' w2) := Lib.hid fun w' h => by
      have := rcheck_any ao n cap l cl sv word w' h hn HRm.out
      rwa [hkk2] at this
    have HLn : Hid (∀ w', Tb t n (.slice ao2 n cap2) l2 w' → Calls Tryz.prog 26 #[.pointer (some ⟨t, 0, none⟩)] w' fun e w2 => e = .returned (.int .i64 n) ∧ Below w'.heap.size w' w2) := Lib.hid fun w' h => by
      obtain ⟨ao3, cap3, he3, htab3⟩ := h.tab
      simp only [Value.slice.injEq] at he3
      obtain ⟨rfl, _, rfl⟩ := he3
      exact len_any t ao2 n cap2 l2 w' htab3
    clear hkk2 hck2
    have hq : (kk == kk) = true := by simp
    have hnn : ((n : Int) == (n : Int)) = true := by simp
    go_wp2_with (first
      | (go_at_call 12; refine (HOne.out _ ad cd HB25.out.i HX15.out.bx.i).mono ?_; rintro e w16 ⟨rfl, hb16⟩; have HX16 := Lib.hid (HX15.out.kept hb16); clear hb16)
      | (go_at_call 24; refine (HCk.out _ HX16.out.tb).mono ?_; rintro e w17 ⟨rfl, hb17⟩; have HX17 := Lib.hid (HX16.out.kept hb17); clear hb17)
      | (go_at_call 25; refine (HRk.out _ HX17.out.sl).mono ?_; rintro e w18 ⟨rfl, hb18⟩; have HX18 := Lib.hid (HX17.out.kept hb18); clear hb18)
      | (go_at_call 26; refine (HLn.out _ HX18.out.tb).mono ?_; rintro e w19 ⟨rfl, hb19⟩; have HX19 := Lib.hid (HX18.out.kept hb19); clear hb19)
      | (go_at_call 13; refine (HA.out _ HX19.out.below).mono ?_; rintro e w20 ⟨rfl, hb20⟩; have HB20 := Lib.hid (below_step HX19.out.below hb20); clear hb20))
    go_ret
    exact ⟨rfl, HB20.out⟩
end Go.Proofs.Sa
