/- secrets: the law SecretWrites walked. -/
import Derived.Test.YtnadimjglkodkaaGreatDoorPrTyC
import Derived.Test.YtnadimjglkodkaaGreatDoorPrTwU
import Derived.Test.YtnadimjglkodkaaGreatDoorPrTzM
import Derived.Test.YtnadimjglkodkaaGreatDoorPrTzR
namespace Go.Proofs.Sr
open Go Go.RowKit Go.Pl Go.Proofs.Sa Go.Maps Go.Proofs.Pt
theorem like_firstBad : ∀ {l m : List Sec} (i : Nat), AllLike l m → firstBad i m = firstBad i l
  | [], [], _, _ => rfl
  | [], _ :: _, _, h => h.elim
  | _ :: _, [], _, h => h.elim
  | x :: l, y :: m, i, h => by
    obtain ⟨⟨h1, h2, h3, _, h5⟩, h'⟩ := h
    have e : y.right = x.right := by unfold Sec.right; rw [h1, h2, h3, h5]
    unfold firstBad
    rw [e, like_firstBad (i + 1) h']
theorem like_length : ∀ {l m : List Sec}, AllLike l m → m.length = l.length
  | [], [], _ => rfl
  | [], _ :: _, h => h.elim
  | _ :: _, [], h => h.elim
  | x :: l, y :: m, h => by rw [List.length_cons, List.length_cons, like_length h.2]
theorem like_wrongR {l m : List Sec} (h : AllLike l m) : wrongR m = wrongR l := by
  unfold wrongR
  rw [like_length h, like_firstBad 0 h]
theorem like_secX : ∀ {l m : List Sec}, AllLike l m → m.map secX = l.map secX
  | [], [], _ => rfl
  | [], _ :: _, h => h.elim
  | _ :: _, [], h => h.elim
  | x :: l, y :: m, h => by
    obtain ⟨⟨h1, h2, h3, _, h5⟩, h'⟩ := h
    rw [List.map_cons, List.map_cons, like_secX h']
    unfold secX
    rw [h1, h2, h3, h5]
theorem like_outP {l m : List Sec} (h : AllLike l m) : outP m = outP l := by
  unfold outP
  rw [like_wrongR h, like_secX h]
theorem out_back {l : List Sec} (h : (wrongR l).1 = 0) : parseT (outP l) = .ok (l.map said) := by
  obtain ⟨h1, h2, _⟩ := wrong_zero h
  unfold outP
  rw [if_pos h, file_back (fun y hy => by
    obtain ⟨x, hx, rfl⟩ := List.mem_map.1 hy
    exact fine_right (h2 x hx)) (by rw [List.length_map]; exact h1), List.map_map]
  congr 1
  exact List.map_congr_left fun x hx => saidX_right (h2 x hx)
theorem like_n1 : ∀ {l l1 : List Sec}, AllLike l l1 → ∀ {N : Nat}, (∀ x ∈ l, x.n ≤ N) → ∀ y ∈ l1, y.n ≤ N
  | [], [], _, _, _, y, hy => by cases hy
  | [], _ :: _, h, _, _, _, _ => h.elim
  | _ :: _, [], h, _, _, _, _ => h.elim
  | x :: l, z :: m, h, N, hn, y, hy => by
    rcases List.mem_cons.1 hy with rfl | hy
    · rw [h.1.2.2.2.1]; exact hn x (List.mem_cons_self ..)
    · exact like_n1 h.2 (fun x hx => hn x (List.mem_cons_of_mem _ hx)) y hy
theorem said_n : ∀ {l5 l : List Sec} {w w5 : World} {N : Nat}, l5.map said = l.map said → (∀ x ∈ l, Ints w x.ao x.n x.zs) → (∀ x ∈ l, x.n ≤ N) → (∀ y ∈ l5, Ints w5 y.ao y.n y.zs) → ∀ y ∈ l5, y.n ≤ N
  | [], _, _, _, _, _, _, _, _, y, hy => by cases hy
  | _ :: _, [], _, _, _, h, _, _, _, _, _ => by cases h
  | z :: m, x :: l, w, w5, N, h, hi, hn, hj, y, hy => by
    simp only [List.map_cons, List.cons.injEq] at h
    obtain ⟨h1, h2⟩ := h
    rcases List.mem_cons.1 hy with rfl | hy
    · have e : y.zs = x.zs := by
        simp only [said, Prod.mk.injEq] at h1
        exact h1.2.2.2
      have a := (hj y (List.mem_cons_self ..)).len
      have b := (hi x (List.mem_cons_self ..)).len
      have c := hn x (List.mem_cons_self ..)
      rw [e] at a
      omega
    · exact said_n h2 (fun v hv => hi v (List.mem_cons_of_mem _ hv)) (fun v hv => hn v (List.mem_cons_of_mem _ hv)) (fun v hv => hj v (List.mem_cons_of_mem _ hv)) y hy
set_option maxRecDepth 1000000 in
set_option maxHeartbeats 3200000 in
theorem writes_law (ao : Option Addr) (n cap : Nat) (l : List Sec) (t : TypeId) (pv : Value) (w : World) (hV : Env w t pv) (hz : Secs w ao n l) (hn : n ≤ 1048576) (hns : ∀ x ∈ l, x.n ≤ 1048576) (hnil : ∀ x ∈ l, x.ao = none → x.cap = 0) (hr : Room l) (hA : ∀ w', Below w.heap.size w w' → Calls Tryz.prog 26 #[] w' fun e w2 => e = .returned (.bool true) ∧ Below w'.heap.size w' w2) :
    Calls Tryz.prog 6 #[.slice ao n cap] w fun e w' => e = .returned (.bool true) ∧ Below w.heap.size w w' := by
  have HV := Lib.hid hV
  have HA := Lib.hid hA
  have HZ := Lib.hid hz
  have HNs := Lib.hid hns
  obtain ⟨S, hS⟩ : ∃ S : ByteArray, S.data.toList = outP l := ⟨⟨(outP l).toArray⟩, rfl⟩
  have hSu : ∀ s : ByteArray, s.data.toList = outP l → s = S := fun s hs => by
    obtain ⟨⟨a⟩⟩ := s
    obtain ⟨⟨b⟩⟩ := S
    simp at hs hS
    rw [hs, hS]
  have HCp := Lib.hid (copied_any ao n cap l w hz hn hns hnil)
  have HPp : Hid (∀ w1 ao1 cap1 l1, AllLike l l1 → Secs w1 ao1 n l1 → Below w.heap.size w w1 → Calls Tryz.prog 28 #[.slice ao1 n cap1] w1 fun e w' => e = .returned (.tuple #[.string S, .int .i64 (wrongR l).1, .int .i64 (wrongR l).2]) ∧ Below w1.heap.size w1 w') := Lib.hid fun w1 ao1 cap1 l1 hl hs hb => by
    refine (print_any ao1 n cap1 l1 w1 hs (HV.out.con.kept hb)).mono ?_
    rintro e w' ⟨s, rfl, h1, h2⟩
    rw [like_outP hl] at h1
    rw [hSu s h1, like_wrongR hl]
    exact ⟨rfl, h2⟩
  have HPr : Hid (∀ w1, Below w.heap.size w w1 → Calls Tryz.prog 29 #[.slice ao n cap] w1 fun e w' => e = .returned (.tuple #[.string S, .int .i64 (wrongR l).1, .int .i64 (wrongR l).2]) ∧ Below w1.heap.size w1 w') := Lib.hid fun w1 hb => by
    refine (rprint_any ao n cap l w1 (HZ.out.kept hb) hr (HV.out.con.kept hb)).mono ?_
    rintro e w' ⟨s, rfl, h1, h2⟩
    rw [hSu s h1]
    exact ⟨rfl, h2⟩
  have HBk := Lib.hid (fun h : (wrongR l).1 = 0 => (out_back h))
  rw [← hS] at HBk
  have HPa := Lib.hid (fun w (h : Env w t pv) => parse_any S t pv w h)
  have HSm : Hid (∀ w1 ao1 cap1 l1, sameL l1 l = true → Secs w1 ao1 l1.length l1 → (∀ x ∈ l1, x.n ≤ 1048576) → l1.length ≤ 1048576 → Below w.heap.size w w1 → Calls Tryz.prog 24 #[.slice ao1 l1.length cap1, .slice ao n cap] w1 fun e w' => e = .returned (.bool true) ∧ Below w1.heap.size w1 w') := Lib.hid fun w1 ao1 cap1 l1 he hs h2 h3 hb => by
    have := rsame_any ao1 ao l1.length cap1 n cap l1 l w1 hs (HZ.out.kept hb) h3 h2
    rwa [he] at this
  have HLn := Lib.hid (HZ.out.len)
  clear hV hA hz hns hnil hr hS hSu
  obtain ⟨k1, hk1⟩ : ∃ k1, (wrongR l).1 = k1 := ⟨_, rfl⟩
  obtain ⟨k2, hk2⟩ : ∃ k2, (wrongR l).2 = k2 := ⟨_, rfl⟩
  rw [hk1] at HBk
  simp only [hk1, hk2] at HPp HPr
  clear hk1 hk2
  go_enter Tryz.func6, Tryz.ntmps6
  go_upto_region 2 with (go_at_call 27; go_loud (refine HCp.out.mono ?_; rintro e w1 ⟨v, l1, rfl, hc⟩; have HC := Lib.hid hc; clear hc))
  have hlk : AllLike l l1 := by
    have := HC.out.1
    rwa [List.take_of_length_le (by rw [HLn.out]; exact Nat.le_refl _)] at this
  have hll : l1.length = n := (like_length hlk).trans HLn.out
  obtain ⟨ao1, cap1, rfl, hs1, _⟩ := secs_own HC.out.2.1 (fun x hx => (HC.out.2.2.1 x hx).1)
  have HLk := Lib.hid hlk
  have HS1 := Lib.hid hs1
  have HB1 := Lib.hid HC.out.2.2.2
  have HLl := Lib.hid hll
  have HNl : Hid (∀ y ∈ l1, y.n ≤ 1048576) := Lib.hid (like_n1 hlk HNs.out)
  clear hlk hll hs1 HC
  go_upto_region 3 with (go_at_call 28; go_loud (refine (HPp.out _ _ cap1 _ HLk.out HS1.out HB1.out).mono ?_; rintro e w2 ⟨rfl, hb2⟩; have HD2 := Lib.hid hb2; have HB2 := Lib.hid (below_step HB1.out hb2); clear hb2))
  go_upto_region 4 with (go_at_call 29; go_loud (refine (HPr.out _ HB2.out).mono ?_; rintro e w3 ⟨rfl, hb2⟩; have HD3 := Lib.hid hb2; have HB3 := Lib.hid (below_step HB2.out hb2); clear hb2))
  have HSame1 : Hid (Calls Tryz.prog 24 #[.slice ao1 n cap1, .slice ao n cap] w3 fun e w' => e = .returned (.bool true) ∧ Below w3.heap.size w3 w') := Lib.hid (by
    have hs3 := (HS1.out.kept HD2.out).kept HD3.out
    rw [← HLl.out] at hs3
    have := HSm.out w3 ao1 cap1 l1 (like_self HLk.out) hs3 HNl.out (by rw [HLl.out]; exact hn) HB3.out
    rwa [HLl.out] at this)
  have e1 : (k1 != k1) = false := by simp
  have e2 : (k2 != k2) = false := by simp
  by_cases h0 : k1 = 0
  case neg =>
    have hk0 : (k1 != 0) = true := by simpa using h0
    go_wp2_with (first
      | (go_at_call 24; go_loud (refine HSame1.out.mono ?_; rintro e w4 ⟨rfl, hb4⟩; have HB4 := Lib.hid (below_step HB3.out hb4); clear hb4))
      | (go_at_call 26; go_loud (refine (HA.out _ HB4.out).mono ?_; rintro e w5 ⟨rfl, hb5⟩; have HB5 := Lib.hid (below_step HB4.out hb5); clear hb5)))
    go_ret
    exact ⟨rfl, HB5.out⟩
  case pos =>
    have HPb := Lib.hid (HBk.out h0)
    subst h0
    have HFin : Hid (∀ w5 ao5 cap5 l5, l5.map said = l.map said → Frs w5.heap.size (.slice ao5 l5.length cap5) l5 w5 → Below w.heap.size w w5 → True) := Lib.hid fun _ _ _ _ _ _ _ => trivial
    have HSame2 : Hid (∀ w4 w5 ao5 cap5 l5, Below w.heap.size w w4 → l5.map said = l.map said → Frs w4.heap.size (.slice ao5 l5.length cap5) l5 w5 → Below w4.heap.size w4 w5 → Calls Tryz.prog 24 #[.slice ao5 l5.length cap5, .slice ao n cap] w5 fun e w' => e = .returned (.bool true) ∧ Below w5.heap.size w5 w') := Lib.hid fun w4 w5 ao5 cap5 l5 hb4 hl hf hb5 => by
      have hlen : l5.length = l.length := by have := congrArg List.length hl; rwa [List.length_map, List.length_map] at this
      exact HSm.out w5 ao5 cap5 l5 (said_same l5 l hl) (hf.secs rfl) (fun y hy => said_n hl HZ.out.ints HNs.out (fun y hy => (hf.ints y hy).1) y hy) (by rw [hlen, HLn.out]; exact hn) (below_step hb4 hb5)
    clear HFin
    go_upto_region 9 with (first
      | (go_at_call 24; go_loud (refine HSame1.out.mono ?_; rintro e w4 ⟨rfl, hb4⟩; have HB4 := Lib.hid (below_step HB3.out hb4); clear hb4))
      | (go_at_call 22; go_loud (refine (HPa.out _ (HV.out.kept HB4.out)).mono ?_; rintro e w5 h1; have hb5 := h1.2.2; obtain ⟨v5, l5, rfl, hl5, hf5⟩ := h1.1 _ HPb.out; obtain ⟨ao5, cap5, rfl⟩ := own_slice hf5.own; have HS5 := Lib.hid (HSame2.out _ _ ao5 cap5 _ HB4.out hl5 hf5 hb5); have HB5 := Lib.hid (below_step HB4.out hb5); clear h1 hb5 hl5 hf5)))
    go_wp2_with (first
      | (go_at_call 24; go_loud (refine HS5.out.mono ?_; rintro e w6 ⟨rfl, hb6⟩; have HB6 := Lib.hid (below_step HB5.out hb6); clear hb6))
      | (go_at_call 26; go_loud (refine (HA.out _ HB6.out).mono ?_; rintro e w7 ⟨rfl, hb7⟩; have HB7 := Lib.hid (below_step HB6.out hb7); clear hb7)))
    go_ret
    exact ⟨rfl, HB7.out⟩
end Go.Proofs.Sr
