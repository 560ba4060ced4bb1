/- secrets: what is right can be written, in plain Lean; the document's Print. -/
import Derived.Test.YtnadimjglkodkaaGreatDoorPrSwP
import Derived.Test.YtnadimjglkodkaaGreatDoorPrTyA
import Derived.Test.YtnadimjglkodkaaGreatDoorPrTzK
import Derived.Test.YtnadimjglkodkaaGreatDoorPrTzQ
namespace Go.Proofs.Sr
open Go Go.Pl Go.Lib Go.Proofs.Sa Go.Proofs.Pt
abbrev Row4 := List UInt8 × List UInt8 × List UInt8 × List Nat
def secX (x : Sec) : Row4 := (x.c.data.toList, x.sv.data.toList, x.wd.data.toList, x.zs.map Int.toNat)
def outP (l : List Sec) : List UInt8 := if (wrongR l).1 = 0 then fileP (l.map secX) else []
theorem str_list (s : ByteArray) : str s.data.toList = s := rfl
theorem okC_not {c : UInt8} (h : badName c = false) : okC c := by
  unfold badName at h
  simp only [Bool.or_eq_false_iff, decide_eq_false_iff_not, beq_eq_false_iff_ne] at h
  exact ⟨by omega, by omega, h.1.2, h.2⟩
theorem nameOk_fine {s : ByteArray} (h : nameOk s = true) : (∀ y ∈ s.data.toList, okC y) ∧ s.data.toList.length ≤ 64 := by
  unfold nameOk at h
  simp only [Bool.and_eq_true, decide_eq_true_eq, List.all_eq_true] at h
  refine ⟨fun y hy => okC_not (by simpa using h.2 y hy), by rw [← Lib.size_eq]; exact h.1.2⟩
theorem nameBad_fine {s : ByteArray} (h : nameBad s = false) : (∀ y ∈ s.data.toList, okC y) ∧ s.data.toList.length ≤ 64 := by
  unfold nameBad at h
  rw [Bool.and_eq_false_iff] at h
  rcases h with h | h
  · have h2 : s.toList = [42] := by simpa using h
    rw [Lib.toList_data] at h2
    rw [h2]
    exact ⟨by intro y hy; obtain rfl := List.mem_singleton.1 hy; unfold okC; decide, by decide⟩
  · exact nameOk_fine (by simpa using h)
theorem wordBad_fine {s : ByteArray} (h : wordBad s = false) : (∀ y ∈ s.data.toList, okC y) ∧ s.data.toList.length ≤ 64 := by
  unfold wordBad at h
  rw [Bool.and_eq_false_iff] at h
  rcases h with h | h
  · have h2 : s.toList = [] := by simpa using h
    rw [Lib.toList_data] at h2
    rw [h2]
    exact ⟨fun y hy => (by cases hy), by decide⟩
  · exact nameOk_fine (by simpa using h)
theorem right_parts {c sv wd : ByteArray} {zs : List Int} (h : rightR c sv wd zs = 0) : nameBad c = false ∧ nameBad sv = false ∧ wordBad wd = false ∧ zs.length ≤ 16 ∧ ∀ z ∈ zs, 1 ≤ z ∧ z ≤ 4294967295 := by
  unfold rightR at h
  split at h
  · omega
  rename_i h1
  split at h
  · omega
  rename_i h2
  split at h
  · omega
  rename_i h3
  simp only [Bool.or_eq_true, not_or, Bool.not_eq_true] at h1
  refine ⟨h1.1, h1.2, by simpa using h2, by omega, fun z hz => ?_⟩
  unfold addrsR at h
  split at h
  · omega
  rename_i h4
  have : badAddr z = false := by
    rw [← Bool.not_eq_true]
    exact fun hb => h4 (List.any_eq_true.2 ⟨z, hz, hb⟩)
  unfold badAddr at this
  simp only [Bool.or_eq_false_iff, decide_eq_false_iff_not] at this
  omega
theorem nats_back : ∀ {zs : List Int}, (∀ z ∈ zs, 1 ≤ z ∧ z ≤ 4294967295) → (zs.map Int.toNat).map (fun (z : Nat) => (z : Int)) = zs
  | [], _ => rfl
  | z :: zs, h => by
    have hz := h z (List.mem_cons_self ..)
    rw [List.map_cons, List.map_cons, nats_back (fun y hy => h y (List.mem_cons_of_mem _ hy))]
    congr 1
    omega
theorem fine_right {x : Sec} (h : x.right = 0) : Fine (secX x) := by
  have h0 : rightR x.c x.sv x.wd x.zs = 0 := h
  obtain ⟨h1, h2, h3, h4, h5⟩ := right_parts h0
  have a := nameBad_fine h1; have b := nameBad_fine h2; have c := wordBad_fine h3
  refine ⟨a.1, b.1, c.1, fun y hy => ?_, a.2, b.2, c.2, by show (x.zs.map Int.toNat).length ≤ 16; rw [List.length_map]; exact h4, ?_⟩
  · obtain ⟨z, hz, rfl⟩ := List.mem_map.1 hy
    have := h5 z hz
    omega
  · show rightR x.c x.sv x.wd ((x.zs.map Int.toNat).map (fun (z : Nat) => (z : Int))) = 0
    rw [nats_back h5]; exact h0
theorem saidX_right {x : Sec} (h : x.right = 0) : saidX (secX x) = (x.c.data.toList, x.sv.data.toList, x.wd.data.toList, x.zs) := by
  have h0 : rightR x.c x.sv x.wd x.zs = 0 := h
  show (_, _, _, (x.zs.map Int.toNat).map (fun (z : Nat) => (z : Int))) = _
  rw [nats_back (right_parts h0).2.2.2.2]; rfl
theorem firstBad_zero : ∀ (l : List Sec) (i : Nat), (firstBad i l).1 = 0 → (∀ x ∈ l, x.right = 0) ∧ firstBad i l = (0, 0)
  | [], i, _ => ⟨fun x hx => (by cases hx), rfl⟩
  | x :: l, i, h => by
    unfold firstBad at h ⊢
    by_cases hx : x.right = 0
    · rw [if_pos hx] at h ⊢
      obtain ⟨h1, h2⟩ := firstBad_zero l (i + 1) h
      exact ⟨fun y hy => by
        rcases List.mem_cons.1 hy with rfl | hy
        · exact hx
        · exact h1 y hy, h2⟩
    · rw [if_neg hx] at h
      exact absurd h hx
theorem wrong_zero {l : List Sec} (h : (wrongR l).1 = 0) : l.length ≤ 64 ∧ (∀ x ∈ l, x.right = 0) ∧ wrongR l = (0, 0) := by
  unfold wrongR at h ⊢
  split at h
  · exact absurd h (by decide)
  · rename_i hn
    rw [if_neg hn]
    exact ⟨by omega, firstBad_zero l 0 h⟩
def tailP (zs : List Int) : List UInt8 := zs.flatMap fun z => 32 :: textN z.toNat
theorem tailP_snoc (zs : List Int) (z : Int) : tailP (zs ++ [z]) = tailP zs ++ 32 :: textN z.toNat := by simp [tailP]
def headP (x : Sec) : List UInt8 := wordP x.c.data.toList ++ 32 :: (wordP x.sv.data.toList ++ 32 :: wordP x.wd.data.toList)
theorem inter_tail : ∀ (zs : List Nat) (w : List UInt8), List.intercalate [32] ((w :: zs.map textN).map wordP) = wordP w ++ zs.flatMap fun z => 32 :: textN z
  | [], w => by simp [List.intercalate]
  | z :: zs, w => by
    have ih := inter_tail zs (textN z)
    have e : List.intercalate [32] ((w :: (z :: zs).map textN).map wordP) = wordP w ++ 32 :: List.intercalate [32] ((textN z :: zs.map textN).map wordP) := by
      cases zs with
      | nil => simp [List.intercalate, List.intersperse]
      | cons v vs => simp [List.intercalate, List.intersperse]
    rw [e, ih, wordP_text]; simp
theorem inter_cons2 (a b : List UInt8) (r : List (List UInt8)) : List.intercalate [32] ((a :: b :: r).map wordP) = wordP a ++ 32 :: List.intercalate [32] ((b :: r).map wordP) := by
  cases r with
  | nil => simp [List.intercalate, List.intersperse]
  | cons v vs => simp [List.intercalate, List.intersperse]
theorem lineX_eq (x : Sec) : lineX (secX x) = headP x ++ tailP x.zs := by
  show List.intercalate [32] ((x.c.data.toList :: x.sv.data.toList :: x.wd.data.toList :: (x.zs.map Int.toNat).map textN).map wordP) = _
  rw [inter_cons2, inter_cons2, inter_tail]
  simp [headP, tailP, List.flatMap_map]
theorem fileP_snoc (l : List Sec) (x : Sec) : fileP ((l ++ [x]).map secX) = fileP (l.map secX) ++ (headP x ++ tailP x.zs) ++ [10] := by
  simp [fileP, lineX_eq]
theorem take_snoc {l : List Sec} {i : Nat} {x : Sec} (h : l[i]? = some x) : l.take (i + 1) = l.take i ++ [x] := by
  rw [List.take_add_one, h]; rfl
theorem takez_snoc {l : List Int} {i : Nat} {x : Int} (h : l[i]? = some x) : l.take (i + 1) = l.take i ++ [x] := by
  rw [List.take_add_one, h]; rfl
theorem headP_len {x : Sec} (h : x.right = 0) : (headP x).length ≤ 200 := by
  have hf := fine_right h
  have h1 := (wordP_len x.c.data.toList).2; have h2 := (wordP_len x.sv.data.toList).2; have h3 := (wordP_len x.wd.data.toList).2
  have a : x.c.data.toList.length ≤ 64 := hf.cl
  have b : x.sv.data.toList.length ≤ 64 := hf.sl
  have c : x.wd.data.toList.length ≤ 64 := hf.wl
  unfold headP
  simp only [List.length_append, List.length_cons]; omega
theorem tailP_len : ∀ zs : List Int, (tailP zs).length ≤ 16 * zs.length
  | [] => Nat.le_refl _
  | z :: zs => by
    have ih := tailP_len zs
    have := textN_len z.toNat
    have e : (tailP (z :: zs)).length = (textN z.toNat).length + 1 + (tailP zs).length := by simp [tailP]; omega
    rw [e, List.length_cons]; omega
end Go.Proofs.Sr
namespace Go.Proofs.Sr
open Go Go.RowKit Go.Pl Go.Proofs.Sa Go.Proofs.Pt
theorem strP_size {s : ByteArray} (_h : ∀ y ∈ s.data.toList, okC y) (hl : s.data.toList.length ≤ 64) : (strP s).size ≤ 66 := by
  rw [Lib.size_eq, strP_list]
  have := (wordP_len s.data.toList).2
  omega
set_option maxRecDepth 1000000 in
set_option maxHeartbeats 6400000 in
theorem rprint_any (ao : Option Addr) (n cap : Nat) (l : List Sec) (w : World) (hz : Secs w ao n l) (hr : Room l) (hC : Consts w) : Calls Tryz.prog 29 #[.slice ao n cap] w fun e w' => ∃ s : ByteArray, e = .returned (.tuple #[.string s, .int .i64 (wrongR l).1, .int .i64 (wrongR l).2]) ∧ s.data.toList = outP l ∧ Below w.heap.size w w' := by
  have HF := Lib.hid (fault_any ao n cap l w hz hr)
  have HZ := Lib.hid hz
  have HC := Lib.hid hC
  clear hz hr hC
  obtain ⟨k1, k2, hk⟩ : ∃ k1 k2, wrongR l = (k1, k2) := ⟨_, _, rfl⟩
  rw [hk] at HF ⊢
  by_cases h0 : k1 = 0
  case neg =>
    have hk0 : (k1 != 0) = true := by simpa using h0
    have HO := Lib.hid (show outP l = [] from if_neg (by rw [hk]; exact h0))
    clear hk h0
    go_enter Tryz.func29, Tryz.ntmps29
    go_wp2_with (go_at_call 58; go_loud (refine HF.out.mono ?_; rintro e w2 ⟨rfl, hb2⟩; have HB2 := Lib.hid hb2; clear hb2))
    go_ret3
    exact ⟨⟨#[]⟩, rfl, HO.out.symm, HB2.out⟩
  subst h0
  obtain ⟨hl64, hrt, hk2⟩ := wrong_zero (l := l) (by rw [hk])
  obtain rfl : k2 = 0 := by rw [hk] at hk2; exact congrArg Prod.snd hk2
  have HO := Lib.hid (show outP l = fileP (l.map secX) from if_pos (by rw [hk]))
  have HRt := Lib.hid hrt
  have hn64 : n ≤ 64 := by rw [← HZ.out.len]; exact hl64
  clear hk hk2 hrt hl64
  go_enter Tryz.func29, Tryz.ntmps29
  go_upto_block 0 with (go_at_call 58; go_loud (refine HF.out.mono ?_; rintro e w2 ⟨rfl, hb2⟩; have HB2 := Lib.hid hb2; clear hb2))
  go_wp2
  go_loopg [7, 23] n (fun g s7 s23 wx => ∃ (i : Nat) (b : ByteArray), i + g = n ∧ s23 = .int .i64 i ∧ s7 = .string b ∧ b.size ≤ 458 * i ∧ Hid (b.data.toList = fileP ((l.take i).map secX) ∧ Below w.heap.size w wx))
  case atStart => exact ⟨0, ⟨#[]⟩, by omega, rfl, rfl, Nat.le_refl _, Lib.hid ⟨rfl, HB2.out⟩⟩
  case round =>
    obtain ⟨i, b, hig, rfl, rfl, hbz, HR⟩ := hrel
    cases gk with
    | zero =>
      obtain rfl : i = n := by omega
      go_wp2
      go_ret3
      exact ⟨b, rfl, by rw [HO.out, HR.out.1, List.take_of_length_le (by rw [HZ.out.len]; exact Nat.le_refl _)], HR.out.2⟩
    | succ g =>
      have hi : (i : Int) < (n : Int) := by omega
      have hil : i < l.length := by rw [HZ.out.len]; omega
      obtain ⟨x, hx⟩ : ∃ x, l[i]? = some x := ⟨_, List.getElem?_eq_getElem hil⟩
      have hxm := List.mem_of_getElem? hx
      have HS := Lib.hid (HZ.out.kept HR.out.2)
      obtain ⟨ba, off, rfl, hb, hc⟩ := HS.out.row (by omega)
      obtain ⟨q0, q1, q2, q3⟩ := hc i x hx
      have HI := Lib.hid (HS.out.ints x hxm)
      have hright := HRt.out x hxm
      have HRi := Lib.hid hright
      have HX := Lib.hid hx
      have HFi := Lib.hid (fine_right hright)
      have HQ : Hid (∀ s, (s = x.c ∨ s = x.sv ∨ s = x.wd) → ∀ w, Calls Tryz.prog 59 #[.string s] w fun e w' => e = .returned (.string (strP s)) ∧ w' = w) := Lib.hid fun s hs w => by
        have h1 : x.c.data.toList.length ≤ 64 := HFi.out.cl
        have h2 : x.sv.data.toList.length ≤ 64 := HFi.out.sl
        have h3 : x.wd.data.toList.length ≤ 64 := HFi.out.wl
        rcases hs with rfl | rfl | rfl
        · exact rquoted_any _ (by rw [Lib.size_eq]; omega) HFi.out.c w
        · exact rquoted_any _ (by rw [Lib.size_eq]; omega) HFi.out.s w
        · exact rquoted_any _ (by rw [Lib.size_eq]; omega) HFi.out.w w
      clear hc hx hb hil hxm hright
      have HB := Lib.hid (Box4.start wr (.string x.c) (.string x.sv) (.string x.wd) (.slice x.ao x.n x.cap) 93)
      have k0 := HB.out.k0
      have k1 := HB.out.k1
      have k2 := HB.out.k2
      have k3 := HB.out.k3
      go_upto_region 8 with fail
      generalize (wr.alloc (.cells #[.string x.c, .string x.sv, .string x.wd, .slice x.ao x.n x.cap] 93)) = w8 at *
      have HB8 : Hid (Below wr.heap.size wr w8) := Lib.hid HB.out.below
      have HI8 := Lib.hid (HI.out.kept HB8.out)
      have h8 : wr.heap.size < w8.heap.size := HB.out.lt
      have HR8 : Hid (b.data.toList = fileP ((l.take i).map secX) ∧ Below w.heap.size w w8) := Lib.hid ⟨HR.out.1, below_step HR.out.2 HB8.out⟩
      generalize wr.heap.size = g9 at *
      have HALL : Hid (∀ w', Below w8.heap.size w8 w' → w'.cell? ⟨g9, 0, none⟩ = some (.string x.c) ∧ w'.cell? ⟨g9, 1, none⟩ = some (.string x.sv) ∧ w'.cell? ⟨g9, 2, none⟩ = some (.string x.wd) ∧ w'.cell? ⟨g9, 3, none⟩ = some (.slice x.ao x.n x.cap) ∧ Hid (Below w8.heap.size w8 w')) :=
        Lib.hid fun w' h => ⟨(h.cell h8).trans k0, (h.cell h8).trans k1, (h.cell h8).trans k2, (h.cell h8).trans k3, Lib.hid h⟩
      have HSd : Hid (Below w8.heap.size w8 w8.drew) := Lib.hid ⟨rfl, rfl, rfl, Nat.le_refl _, fun _ _ => rfl⟩
      have hz1 := strP_size HFi.out.c HFi.out.cl
      have hz2 := strP_size HFi.out.s HFi.out.sl
      have hz3 := strP_size HFi.out.w HFi.out.wl
      have HL1 := Lib.hid (strP_list x.c)
      have HL2 := Lib.hid (strP_list x.sv)
      have HL3 := Lib.hid (strP_list x.wd)
      have HQ1 : Hid (∀ w, Calls Tryz.prog 59 #[.string x.c] w fun e w' => e = .returned (.string (strP x.c)) ∧ w' = w) := Lib.hid (HQ.out _ (.inl rfl))
      have HQ2 : Hid (∀ w, Calls Tryz.prog 59 #[.string x.sv] w fun e w' => e = .returned (.string (strP x.sv)) ∧ w' = w) := Lib.hid (HQ.out _ (.inr (.inl rfl)))
      have HQ3 : Hid (∀ w, Calls Tryz.prog 59 #[.string x.wd] w fun e w' => e = .returned (.string (strP x.wd)) ∧ w' = w) := Lib.hid (HQ.out _ (.inr (.inr rfl)))
      generalize strP x.c = s1 at *
      generalize strP x.sv = s2 at *
      generalize strP x.wd = s3 at *
      have g1 : ¬ 9223372036854775807 < b.size + s1.size := by omega
      have g2 : ¬ 9223372036854775807 < b.size + s1.size + 1 := by omega
      have g3 : ¬ 9223372036854775807 < b.size + s1.size + 1 + s2.size := by omega
      have g4 : ¬ 9223372036854775807 < b.size + s1.size + 1 + s2.size + 1 := by omega
      have g5 : ¬ 9223372036854775807 < b.size + s1.size + 1 + s2.size + 1 + s3.size := by omega
      have HBz : Hid ((b ++ s1 ++ ⟨#[32]⟩ ++ s2 ++ ⟨#[32]⟩ ++ s3).size ≤ 458 * i + 200) := Lib.hid (by
        simp only [ByteArray.size_append]
        show b.size + s1.size + 1 + s2.size + 1 + s3.size ≤ _
        omega)
      have HBd : Hid ((b ++ s1 ++ ⟨#[32]⟩ ++ s2 ++ ⟨#[32]⟩ ++ s3).data.toList = fileP ((l.take i).map secX) ++ headP x) := Lib.hid (by
        simp only [ByteArray.data_append, Array.toList_append]
        rw [HR8.out.1, HL1.out, HL2.out, HL3.out]
        simp [headP])
      clear HQ hz1 hz2 hz3 hbz
      go_region_held3 (fun w' => w'.cell? ⟨g9, 0, none⟩ = some (.string x.c) ∧ w'.cell? ⟨g9, 1, none⟩ = some (.string x.sv) ∧ w'.cell? ⟨g9, 2, none⟩ = some (.string x.wd) ∧ w'.cell? ⟨g9, 3, none⟩ = some (.slice x.ao x.n x.cap) ∧ Hid (Below w8.heap.size w8 w'))
        (first | exact HALL.out _ HSd.out | assumption)
        (first
          | (go_at_call 59; with_reducible refine (HQ1.out _).mono ?_; rintro e w5 ⟨rfl, hw5⟩; have hw5 := hw5.symm; subst hw5)
          | (go_at_call 59; with_reducible refine (HQ2.out _).mono ?_; rintro e w5 ⟨rfl, hw5⟩; have hw5 := hw5.symm; subst hw5)
          | (go_at_call 59; with_reducible refine (HQ3.out _).mono ?_; rintro e w5 ⟨rfl, hw5⟩; have hw5 := hw5.symm; subst hw5))
      have HW9 : Hid (Below w8.heap.size w8 w8.drew) := HSd
      have HI9 := Lib.hid (HI8.out.kept HSd.out)
      have HR9 := Lib.hid (below_step HR8.out.2 HSd.out)
      obtain ⟨_, _, _, m3, _⟩ := ‹_ ∧ _ ∧ _ ∧ _ ∧ Hid _›
      clear k0 k1 k2 k3 g1 g2 g3 g4 g5 HALL HSd HI8 HR8 HL1 HL2 HL3 HQ1 HQ2 HQ3 HW9
      generalize w8.drew = w9 at *
      generalize (b ++ s1 ++ ⟨#[32]⟩ ++ s2 ++ ⟨#[32]⟩ ++ s3) = b1 at *
      have hxn : x.zs.length = x.n := HI9.out.len
      have hx16 : x.n ≤ 16 := by
        have h0 : rightR x.c x.sv x.wd x.zs = 0 := HRi.out
        have := (right_parts h0).2.2.2.1
        omega
      have HZs : Hid (∀ z ∈ x.zs, 1 ≤ z ∧ z ≤ 4294967295) := Lib.hid (by
        have h0 : rightR x.c x.sv x.wd x.zs = 0 := HRi.out
        exact (right_parts h0).2.2.2.2)
      have HXN := Lib.hid hxn
      have hb1 := HBz.out
      have HT0 : Hid (b1.data.toList = fileP ((l.take i).map secX) ++ headP x ++ tailP (x.zs.take 0) ∧ Below w.heap.size w w9 ∧ Ints w9 x.ao x.n x.zs) := Lib.hid ⟨by rw [HBd.out]; simp [tailP], HR9, HI9.out⟩
      clear hxn
      generalize x.ao = xo at *
      go_upto_block 2 with fail
      go_cut [7] (fun s7 wx => ∃ b2 : ByteArray, s7 = .string b2 ∧ b2.size ≤ 458 * i + 200 + 16 * x.n ∧ Hid (b2.data.toList = fileP ((l.take i).map secX) ++ headP x ++ tailP x.zs ∧ Below w.heap.size w wx))
      case first =>
        go_wp2
        go_loopg [7, 45] x.n (fun g2 s7 s45 wx => ∃ (j : Nat) (b2 : ByteArray), j + g2 = x.n ∧ s45 = .int .i64 j ∧ s7 = .string b2 ∧ b2.size ≤ 458 * i + 200 + 16 * j ∧ Hid (b2.data.toList = fileP ((l.take i).map secX) ++ headP x ++ tailP (x.zs.take j) ∧ Below w.heap.size w wx ∧ Ints wx xo x.n x.zs))
        case atStart => exact ⟨0, b1, by omega, rfl, rfl, by omega, HT0⟩
        case round =>
          obtain ⟨j, b2, hjg, rfl, rfl, hb2, HT⟩ := hrel
          cases gk with
          | zero =>
            obtain rfl : j = x.n := by omega
            go_wp2
            go_meet
            exact ⟨b2, rfl, hb2, Lib.hid ⟨by rw [HT.out.1, List.take_of_length_le (l := x.zs) (by rw [HXN.out]; exact Nat.le_refl _)], HT.out.2.1⟩⟩
          | succ g2 =>
            have hj : (j : Int) < (x.n : Int) := by omega
            obtain ⟨z, hz⟩ : ∃ z, x.zs[j]? = some z := ⟨_, List.getElem?_eq_getElem (by rw [HXN.out]; omega)⟩
            have hzr := HZs.out z (List.mem_of_getElem? hz)
            obtain ⟨bz, oz, rfl, hbz2, hcz⟩ := HT.out.2.2.row (by omega)
            have hcz2 := hcz j (by omega)
            rw [List.getD_eq_getElem?_getD, hz, Option.getD_some] at hcz2
            obtain ⟨N, rfl⟩ : ∃ N : Nat, z = (N : Int) := ⟨z.toNat, by omega⟩
            have hN : N ≤ 4294967295 := by omega
            have HSh := Lib.hid (show_any N hN wr (HC.out.kept HT.out.2.1))
            have hsl : (⟨(showA N 4).toArray⟩ : ByteArray).size ≤ 15 := show_len N 4
            have hst : (⟨(showA N 4).toArray⟩ : ByteArray).data.toList = textN N := show_all N hN
            have HTk := Lib.hid (takez_snoc hz)
            generalize (⟨(showA N 4).toArray⟩ : ByteArray) = st at *
            have HST := Lib.hid hst
            have g1 : ¬ 9223372036854775807 < b2.size + 1 := by omega
            have g2' : ¬ 9223372036854775807 < b2.size + 1 + st.size := by omega
            clear hz hcz hbz2 hzr hst
            go_wp2_with (go_at_call 60; go_loud (refine HSh.out.mono ?_; rintro e w5 ⟨rfl, hb5⟩; have HB5 := Lib.hid hb5; clear hb5))
            go_roundg g2
            case measure => omega
            case rel => exact ⟨j + 1, b2 ++ ⟨#[32]⟩ ++ st, by omega, by simp, rfl, by simp only [ByteArray.size_append]; show b2.size + 1 + st.size ≤ _; omega, Lib.hid ⟨by
              simp only [ByteArray.data_append, Array.toList_append]
              rw [HT.out.1, HTk.out, tailP_snoc, HST.out]
              simp, below_step HT.out.2.1 HB5.out, HT.out.2.2.kept HB5.out⟩⟩
      case rest =>
      obtain ⟨b2, rfl, hb2, HT⟩ := hcut
      have g1 : ¬ 9223372036854775807 < b2.size + 1 := by omega
      have HTk := Lib.hid (take_snoc HX.out)
      go_wp2
      go_roundg g
      case measure => omega
      case rel => exact ⟨i + 1, b2 ++ ⟨#[10]⟩, by omega, by simp, rfl, by simp only [ByteArray.size_append]; show b2.size + 1 ≤ _; omega, Lib.hid ⟨by
        simp only [ByteArray.data_append, Array.toList_append]
        rw [HT.out.1, HTk.out, fileP_snoc]
        simp, HT.out.2⟩⟩
end Go.Proofs.Sr
