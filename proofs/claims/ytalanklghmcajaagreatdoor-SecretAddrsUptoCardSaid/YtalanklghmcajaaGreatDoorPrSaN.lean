/- secrets: the law SecretAddrs walked. -/
import Derived.Deep.RegionHeld3
import Derived.Test.YtalanklghmcajaaGreatDoorPrSaM
import Derived.Test.YtalanklghmcajaaGreatDoorPrSaL
import Derived.Test.YtalanklghmcajaaGreatDoorPrSaK
import Derived.Test.YtalanklghmcajaaGreatDoorPrSaJ
import Derived.Test.YtalanklghmcajaaGreatDoorPrSaI
namespace Go.Proofs.Sa
open Go Go.RowKit Go.Pl Go.Maps
theorem cellK {w w' : World} (hb : Below w.heap.size w w') {a : Addr} {v : Value} (h : w.cell? a = some v) : w'.cell? a = some v := (hb.cell (World.block_lt_of_cell? _ _ h)).trans h
theorem cop_one {w w' : World} {x : Sec} {v : Value} {l' : List Sec} (h : Cop w [x] 1 v l' w') : ∃ g cap ao c2, v = .slice (some ⟨g, 0, none⟩) 1 cap ∧ w'.cell? ⟨g, 0, none⟩ = some (.string x.c) ∧ w'.cell? ⟨g, 1, none⟩ = some (.string x.sv) ∧ w'.cell? ⟨g, 2, none⟩ = some (.string x.wd) ∧
    w'.cell? ⟨g, 3, none⟩ = some (.slice ao x.n c2) ∧ Ints w' ao x.n x.zs ∧ Below w.heap.size w w' := by
  obtain ⟨h1, h2, h3, h4⟩ := h
  match l', h1 with
  | [y], h1 =>
    obtain ⟨⟨y1, y2, y3, y4, y5⟩, _⟩ := h1
    obtain ⟨i1, _, _⟩ := h3 y (by simp)
    obtain ⟨_, ⟨_, k⟩ | ⟨g, cap, cur, rfl, _, k2, _, _, _, k3⟩⟩ := h2
    · cases k
    · have hc : ∀ j u, (Sec.cells4 y)[j]? = some u → w'.cell? ⟨g, j, none⟩ = some u := fun j u hu => by
        simp only [World.cell?, k2]
        rw [← Array.getElem?_toList]
        have hj : j < 4 := (List.getElem?_eq_some_iff.1 hu).1
        rw [← hu, ← List.getElem?_take_of_lt (show j < 1 * 4 by omega), k3]
        simp
      refine ⟨g, cap, y.ao, y.cap, rfl, ?_, ?_, ?_, ?_, ?_, h4⟩
      · rw [← y1]; exact hc 0 _ rfl
      · rw [← y2]; exact hc 1 _ rfl
      · rw [← y3]; exact hc 2 _ rfl
      · rw [← y4]; exact hc 3 _ rfl
      · rw [← y4, ← y5]; exact i1
theorem text_size (a : Int) : (textR a).size < 4294967281 := by
  unfold textR
  split
  · decide
  · have hd : ∀ n, (dd n).length ≤ 3 := fun n => by unfold dd; repeat' split <;> simp
    have : ∀ a b c d, (textA a b c d).length ≤ 15 := fun a b c d => by
      have := hd a; have := hd b; have := hd c; have := hd d
      unfold textA; simp only [List.length_append, List.length_cons]; omega
    have := this (a.toNat / 16777216 % 256) (a.toNat / 65536 % 256) (a.toNat / 256 % 256) (a.toNat % 256)
    show (textA _ _ _ _).toArray.size < _
    simp only [List.size_toArray]; omega
theorem text_back (a : Int) (h : textE a = 0) : addrR (textR a).data.toList = (a, 0) := by
  unfold textE at h
  unfold textR
  split at h
  · cases h
  · rename_i hn
    rw [if_neg hn]
    show addrR (textA _ _ _ _) = _
    unfold addrR
    rw [addr_text (Nat.mod_lt _ (by decide)) (Nat.mod_lt _ (by decide)) (Nat.mod_lt _ (by decide)) (Nat.mod_lt _ (by decide))]
    simp only [Prod.mk.injEq, and_true]
    omega
theorem one_self (x : Sec) (ao : Option Addr) (cap : Nat) : oneR ⟨x.c, x.sv, x.wd, ao, x.n, cap, x.zs⟩ x = true := by simp [oneR, sameB]
/-- Where the law stands, once its copy is made. -/
structure Sit (w : World) (g : Nat) (x : Sec) (ao : Option Addr) (c2 : Nat) (w' : World) : Prop where
  below : Below w.heap.size w w'
  i0 : Ints w' x.ao x.n x.zs
  i1 : Ints w' ao x.n x.zs
  consts : Consts w'
  b0 : w'.cell? ⟨w.heap.size, 0, none⟩ = some (.string x.c)
  b1 : w'.cell? ⟨w.heap.size, 1, none⟩ = some (.string x.sv)
  b2 : w'.cell? ⟨w.heap.size, 2, none⟩ = some (.string x.wd)
  b3 : w'.cell? ⟨w.heap.size, 3, none⟩ = some (.slice x.ao x.n x.cap)
  k0 : w'.cell? ⟨g, 0, none⟩ = some (.string x.c)
  k1 : w'.cell? ⟨g, 1, none⟩ = some (.string x.sv)
  k2 : w'.cell? ⟨g, 2, none⟩ = some (.string x.wd)
  k3 : w'.cell? ⟨g, 3, none⟩ = some (.slice ao x.n c2)
theorem Sit.kept {w : World} {g : Nat} {x : Sec} {ao : Option Addr} {c2 : Nat} {w' w2 : World} (h : Sit w g x ao c2 w') (hb : Below w'.heap.size w' w2) : Sit w g x ao c2 w2 :=
  ⟨below_step h.below hb, h.i0.kept hb, h.i1.kept hb, h.consts.kept hb, cellK hb h.b0, cellK hb h.b1, cellK hb h.b2, cellK hb h.b3, cellK hb h.k0, cellK hb h.k1, cellK hb h.k2, cellK hb h.k3⟩
theorem Sit.all {w : World} {g : Nat} {x : Sec} {ao : Option Addr} {c2 : Nat} {w' : World} (h : Sit w g x ao c2 w') (hh : Hid (Sit w g x ao c2 w')) : w'.cell? ⟨w.heap.size, 0, none⟩ = some (.string x.c) ∧ w'.cell? ⟨w.heap.size, 1, none⟩ = some (.string x.sv) ∧ w'.cell? ⟨w.heap.size, 2, none⟩ = some (.string x.wd) ∧ w'.cell? ⟨w.heap.size, 3, none⟩ = some (.slice x.ao x.n x.cap) ∧
      w'.cell? ⟨g, 0, none⟩ = some (.string x.c) ∧ w'.cell? ⟨g, 1, none⟩ = some (.string x.sv) ∧ w'.cell? ⟨g, 2, none⟩ = some (.string x.wd) ∧ w'.cell? ⟨g, 3, none⟩ = some (.slice ao x.n c2) ∧ Hid (Sit w g x ao c2 w') := ⟨h.b0, h.b1, h.b2, h.b3, h.k0, h.k1, h.k2, h.k3, hh⟩
set_option maxRecDepth 1000000 in
set_option maxHeartbeats 3200000 in
theorem addrs_law (c sv wd : ByteArray) (ao : Option Addr) (n cap : Nat) (zs : List Int) (text : ByteArray) (a : Int) (w : World) (hz : Ints w ao n zs) (hn : n ≤ 1048576) (hcap : n ≤ cap) (hcm : cap ≤ 9223372036854775807) (hnil : ao = none → cap = 0) (hc : Consts w) (ht : text.size < 4294967281)
    (hA : ∀ w', Below w.heap.size w w' → Calls Tryz.prog 13 #[] w' fun e w2 => e = .returned (.bool true) ∧ Below w'.heap.size w' w2) :
    Calls Tryz.prog 3 #[.agg #[.string c, .string sv, .string wd, .slice ao n cap], .string text, .int .i64 a] w fun e w' => e = .returned (.bool true) ∧ Below w.heap.size w w' := by
  have hB2 : Below w.heap.size w ((w.alloc (.cells #[.string c, .string sv, .string wd, .slice ao n cap] 24)).alloc (.cells #[.string c, .string sv, .string wd, .slice ao n cap] 24)) := ((Below.refl _ _).alloc (Nat.le_refl _) _).alloc (by simp) _
  have hx2 : Secs ((w.alloc (.cells #[.string c, .string sv, .string wd, .slice ao n cap] 24)).alloc (.cells #[.string c, .string sv, .string wd, .slice ao n cap] 24)) (some ⟨w.heap.size + 1, 0, none⟩) 1 [⟨c, sv, wd, ao, n, cap, zs⟩] := by
    have hsz : (w.alloc (.cells #[.string c, .string sv, .string wd, .slice ao n cap] 24)).heap.size = w.heap.size + 1 := by simp
    have h4 := cell_four_new (w.alloc (.cells #[.string c, .string sv, .string wd, .slice ao n cap] 24)) (.string c) (.string sv) (.string wd) (.slice ao n cap) 24
    rw [hsz] at h4
    refine ⟨rfl, fun _ => ⟨_, _, rfl, by simp, fun j x hx => ?_⟩, fun x hx => ?_⟩
    · match j, hx with
      | 0, hx =>
        cases hx
        exact ⟨h4 0 _ rfl, h4 1 _ rfl, h4 2 _ rfl, h4 3 _ rfl⟩
    · obtain rfl := List.mem_singleton.1 hx
      exact hz.kept hB2
  have HCo := Lib.hid (copied_any (some ⟨w.heap.size + 1, 0, none⟩) 1 1 [⟨c, sv, wd, ao, n, cap, zs⟩] _ hx2 (by decide) (fun x hx => by obtain rfl := List.mem_singleton.1 hx; exact hn) (fun x hx => by obtain rfl := List.mem_singleton.1 hx; exact hnil))
  have HZ := Lib.hid hz
  have HC := Lib.hid hc
  have HA := Lib.hid hA
  have HB2 := Lib.hid hB2
  have HK0 := Lib.hid (cell_four_new w (.string c) (.string sv) (.string wd) (.slice ao n cap) 24)
  clear hz hc hA hB2 hx2
  go_enter Tryz.func3, Tryz.ntmps3
  go_upto_region 2 with (
    go_at_call 5
    refine HCo.out.mono ?_
    rintro e w3 ⟨v, l', rfl, hcop⟩
    obtain ⟨g, cap1, ao1, c2, rfl, k0, k1, k2, k3, hi1, hb1⟩ := cop_one hcop
    have h0 : ∀ j u, [.string c, .string sv, .string wd, .slice ao n cap][j]? = some u → w3.cell? ((⟨w.heap.size, 0, none⟩ : Addr).add j) = some u := fun j u hu => cellK hb1 (cellK ((Below.refl _ _).alloc (Nat.le_refl _) _) (HK0.out j u hu))
    have HB3 := below_step HB2.out hb1
    have HS : Hid (Sit w g ⟨c, sv, wd, ao, n, cap, zs⟩ ao1 c2 w3) := Lib.hid ⟨HB3, HZ.out.kept HB3, hi1, HC.out.kept HB3, h0 0 _ rfl, h0 1 _ rfl, h0 2 _ rfl, h0 3 _ rfl, k0, k1, k2, k3⟩
    clear hcop hi1 hb1 k0 k1 k2 k3 h0 HB3 HK0 HB2 HCo HZ HC)
  go_upto_region 6 with (first
    | (go_at_call 6; refine (addr_any text ht _ HS.out.consts).mono ?_; rintro e w4 ⟨rfl, hb⟩; have HS := Lib.hid (HS.out.kept hb); clear hb)
    | (go_at_call 7; refine (raddr_any text ht _).mono ?_; rintro e w4 ⟨rfl, rfl⟩)
    | (go_at_call 8; refine (text_any a _ HS.out.consts).mono ?_; rintro e w4 ⟨rfl, hb⟩; have HS := Lib.hid (HS.out.kept hb); clear hb)
    | (go_at_call 9; refine (rtext_any a _ HS.out.consts).mono ?_; rintro e w4 ⟨rfl, hb⟩; have HS := Lib.hid (HS.out.kept hb); clear hb))
  have HR1 : Hid (∀ w', Hid (Sit w g ⟨c, sv, wd, ao, n, cap, zs⟩ ao1 c2 w') → Calls Tryz.prog 10 #[.agg #[.string c, .string sv, .string wd, .slice ao1 n c2]] w' fun e w2 => e = .returned (.int .i64 (rightR c sv wd zs)) ∧ Below w'.heap.size w' w2) := Lib.hid fun w' h => right_any c sv wd ao1 n c2 zs w' h.out.i1
  have HR2 : Hid (∀ w', Hid (Sit w g ⟨c, sv, wd, ao, n, cap, zs⟩ ao1 c2 w') → Calls Tryz.prog 11 #[.agg #[.string c, .string sv, .string wd, .slice ao n cap]] w' fun e w2 => e = .returned (.int .i64 (rightR c sv wd zs)) ∧ Below w'.heap.size w' w2) := Lib.hid fun w' h => rright_any c sv wd ao n cap zs w' h.out.i0 hcap hcm
  have HR3 : Hid (∀ w', Hid (Sit w g ⟨c, sv, wd, ao, n, cap, zs⟩ ao1 c2 w') → Calls Tryz.prog 12 #[.agg #[.string c, .string sv, .string wd, .slice ao1 n c2], .agg #[.string c, .string sv, .string wd, .slice ao n cap]] w' fun e w2 => e = .returned (.bool true) ∧ Below w'.heap.size w' w2) := Lib.hid fun w' h => by
    have := one_any ⟨c, sv, wd, ao1, n, c2, zs⟩ ⟨c, sv, wd, ao, n, cap, zs⟩ w' h.out.i1 h.out.i0 hn
    rwa [one_self ⟨c, sv, wd, ao, n, cap, zs⟩ ao1 c2] at this
  have b0 := HS.out.b0
  have b1 := HS.out.b1
  have b2 := HS.out.b2
  have b3 := HS.out.b3
  have k0 := HS.out.k0
  have k1 := HS.out.k1
  have k2 := HS.out.k2
  have k3 := HS.out.k3
  simp only at b0 b1 b2 b3 k0 k1 k2 k3
  have HSd : Hid (Sit w g ⟨c, sv, wd, ao, n, cap, zs⟩ ao1 c2 w4.drew) := Lib.hid (HS.out.kept ⟨rfl, rfl, rfl, Nat.le_refl _, fun _ _ => rfl⟩)
  go_region_held3 (fun w' => w'.cell? ⟨w.heap.size, 0, none⟩ = some (.string c) ∧ w'.cell? ⟨w.heap.size, 1, none⟩ = some (.string sv) ∧ w'.cell? ⟨w.heap.size, 2, none⟩ = some (.string wd) ∧ w'.cell? ⟨w.heap.size, 3, none⟩ = some (.slice ao n cap) ∧
      w'.cell? ⟨g, 0, none⟩ = some (.string c) ∧ w'.cell? ⟨g, 1, none⟩ = some (.string sv) ∧ w'.cell? ⟨g, 2, none⟩ = some (.string wd) ∧ w'.cell? ⟨g, 3, none⟩ = some (.slice ao1 n c2) ∧ Hid (Sit w g ⟨c, sv, wd, ao, n, cap, zs⟩ ao1 c2 w'))
    (first
      | exact HS2.out.all HS2
      | exact HSd.out.all HSd)
    (first
      | (go_at_call 10; (obtain ⟨_, _, _, _, _, _, _, _, HSx⟩ := ‹_ ∧ _ ∧ _ ∧ _ ∧ _ ∧ _ ∧ _ ∧ _ ∧ Hid _›); refine (HR1.out _ HSx).mono ?_; rintro e w5 ⟨rfl, hb⟩; have HS2 := Lib.hid (HSx.out.kept hb); clear hb HSx)
      | (go_at_call 11; (obtain ⟨_, _, _, _, _, _, _, _, HSx⟩ := ‹_ ∧ _ ∧ _ ∧ _ ∧ _ ∧ _ ∧ _ ∧ _ ∧ Hid _›); refine (HR2.out _ HSx).mono ?_; rintro e w5 ⟨rfl, hb⟩; have HS2 := Lib.hid (HSx.out.kept hb); clear hb HSx)
      | (go_at_call 12; (obtain ⟨_, _, _, _, _, _, _, _, HSx⟩ := ‹_ ∧ _ ∧ _ ∧ _ ∧ _ ∧ _ ∧ _ ∧ _ ∧ Hid _›); refine (HR3.out _ HSx).mono ?_; rintro e w5 ⟨rfl, hb⟩; have HS2 := Lib.hid (HSx.out.kept hb); clear hb HSx))
  obtain ⟨_, _, _, _, _, _, _, _, HSx⟩ := ‹_ ∧ _ ∧ _ ∧ _ ∧ _ ∧ _ ∧ _ ∧ _ ∧ Hid _›
  cases he : textE a == 0 with
  | true =>
    have he0 : textE a = 0 := by simpa using he
    have hk := text_back a he0
    have hk1 : (addrR (textR a).data.toList).1 = a := by rw [hk]
    have hk2 : (addrR (textR a).data.toList).2 = 0 := by rw [hk]
    go_wp2_with (first
      | (go_at_call 6; refine (addr_any (textR a) (text_size a) _ HSx.out.consts).mono ?_; rintro e w6 ⟨rfl, hb⟩; rw [hk1, hk2]; have HSx := Lib.hid (HSx.out.kept hb); clear hb)
      | (go_at_call 13; refine (HA.out _ HSx.out.below).mono ?_; rintro e w6 ⟨rfl, hb⟩; have HSx := Lib.hid (HSx.out.kept hb); clear hb))
    go_ret
    exact ⟨rfl, HSx.out.below⟩
  | false =>
    go_wp2_with (first
      | (go_at_call 13; refine (HA.out _ HSx.out.below).mono ?_; rintro e w6 ⟨rfl, hb⟩; have HSx := Lib.hid (HSx.out.kept hb); clear hb))
    go_ret
    exact ⟨rfl, HSx.out.below⟩
end Go.Proofs.Sa
