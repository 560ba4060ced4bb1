/- secrets: Addr. -/
import Derived.Lib.AppendIntMem
import Derived.Test.YtnadimjglkodkaaGreatDoorPrTzB
import Derived.Test.YtnadimjglkodkaaGreatDoorPrPlAddr
import Derived.Test.YtnadimjglkodkaaGreatDoorPrBits
import Derived.Test.YtnadimjglkodkaaGreatDoorPrTzShelf
namespace Go.Proofs.Sa
open Go Go.RowKit Go.Pl

theorem var_below {P : Program} {n : String} {w w' : World} {cs : Array Value} (h : w.var? P n = some cs) (hb : Below w.heap.size w w') : w'.var? P n = some cs := by
  unfold World.var? at h ⊢
  cases hg : P.globalNamed n with
  | none => simp [hg] at h
  | some g =>
    simp only [hg, Option.bind_some] at h ⊢
    have hlt : g < w.heap.size := by
      rcases Nat.lt_or_ge g w.heap.size with h' | h'
      · exact h'
      · simp [Array.getElem?_eq_none h'] at h
    rw [hb.block g hlt]
    exact h
/-- What the library's tables and variables hold. -/
structure Consts (w : World) : Prop where
  pow : Lib.TabIs Tryz.prog w "internal/strconv.uint64pow10" .u64 Lib.pow10Tab
  most : ∃ m, w.cell? ⟨3, 0, none⟩ = some (.int .i64 m)
  e1 : ∃ ev, w.cell? ⟨6, 0, none⟩ = some ev ∧ (ev = .nilIface ∨ ∃ te pe, ev = .iface te pe)
  e2 : ∃ ev, w.cell? ⟨7, 0, none⟩ = some ev ∧ (ev = .nilIface ∨ ∃ te pe, ev = .iface te pe)
theorem Consts.kept {w w' : World} (h : Consts w) (hb : Below w.heap.size w w') : Consts w' := by
  obtain ⟨h1, ⟨m, h2⟩, ⟨a, h3, h4⟩, b, h5, h6⟩ := h
  have lt : ∀ {x : Addr} {v}, w.cell? x = some v → x.block < w.heap.size := fun h => World.block_lt_of_cell? _ _ h
  exact ⟨var_below h1 hb, ⟨m, (hb.cell (lt h2)).trans h2⟩, ⟨a, (hb.cell (lt h3)).trans h3, h4⟩, b, (hb.cell (lt h5)).trans h5, h6⟩
/-- Atoi: no error, or some. -/
theorem atoi_any (s : ByteArray) (hs : s.size ≤ 281474976710656) (w : World) (hc : Consts w) : Calls Tryz.prog 116 #[.string s] w fun e w' => (∃ v, e = .returned v ∧
    ((∃ k, Lib.atoiAll s.data.toList = .ok k ∧ v = .tuple #[.int .i64 k, .nilIface]) ∨ ((∀ k, Lib.atoiAll s.data.toList ≠ .ok k) ∧ ∃ k t p, v = .tuple #[.int .i64 k, .iface t p]))) ∧ Below w.heap.size w w' := by
  rcases h : Lib.atoiAll s.data.toList with k | _ | _
  · refine (Tryz.strconv_Atoi_ok s (by omega) k h w).mono ?_
    rintro e w' ⟨rfl, hw⟩
    refine ⟨⟨_, rfl, .inl ⟨k, rfl, rfl⟩⟩, ?_⟩
    rcases hw with rfl | ⟨t, rfl⟩
    · exact Below.refl _ _
    · exact Lib.bytesWorld_below _ _ _
  · obtain ⟨ev, h1, h2⟩ := hc.e1
    have hA : Calls Tryz.prog 116 #[.string s] w fun e w' => ∃ N, e = .returned (.tuple #[.int .i64 (0), .iface 209 (.pointer (some ⟨N, 0, none⟩))]) ∧ w.heap.size ≤ N ∧ w'.heap[N]? = some (.cells #[.string ⟨#[65, 116, 111, 105]⟩, .string s, ev] 222 (0, 0)) ∧ Below w.heap.size w w' := Any.strconv_Atoi_syntax Tryz.laysC172 s hs h ev w h1 h2
    refine hA.mono ?_
    rintro e w' ⟨N, rfl, _, _, hb⟩
    exact ⟨⟨_, rfl, .inr ⟨by simp, _, _, _, rfl⟩⟩, hb⟩
  · obtain ⟨ev, h1, h2⟩ := hc.e2
    refine (Tryz.strconv_Atoi_range s hs h ev w h1 h2).mono ?_
    rintro e w' ⟨N, rfl, _, _, hb⟩
    exact ⟨⟨_, rfl, .inr ⟨by simp, _, _, _, rfl⟩⟩, hb⟩
theorem itoa_any (n : Int) (h0 : -9223372036854775808 ≤ n) (h1 : n ≤ 9223372036854775807) (w : World) (hc : Consts w) : Calls Tryz.prog 117 #[.int .i64 n] w fun e w' => e = .returned (.string ⟨(Lib.itoa n).toArray⟩) ∧ Below w.heap.size w w' := by
  refine (Tryz.strconv_Itoa n h0 h1 w hc.pow).mono ?_
  rintro e w' ⟨rfl, k, os, rfl⟩
  exact ⟨rfl, Lib.below_grow _ _ (Nat.le_refl _) _ _⟩
theorem atoi_ok (s : ByteArray) (hs : s.size ≤ 281474976710656) (k : Int) (h : Lib.atoiAll s.data.toList = .ok k) (w : World) : Calls Tryz.prog 116 #[.string s] w fun e w' => e = .returned (.tuple #[.int .i64 k, .nilIface]) ∧ Below w.heap.size w w' := by
  refine (Tryz.strconv_Atoi_ok s (by omega) k h w).mono ?_
  rintro e w' ⟨rfl, hw⟩
  refine ⟨rfl, ?_⟩
  rcases hw with rfl | ⟨t, rfl⟩
  · exact Below.refl _ _
  · exact Lib.bytesWorld_below _ _ _
theorem atoi_bad (s : ByteArray) (hs : s.size ≤ 281474976710656) (h : ∀ k, Lib.atoiAll s.data.toList ≠ .ok k) (w : World) (hc : Consts w) : Calls Tryz.prog 116 #[.string s] w fun e w' => (∃ k t p, e = .returned (.tuple #[.int .i64 k, .iface t p])) ∧ Below w.heap.size w w' := by
  refine (atoi_any s hs w hc).mono ?_
  rintro e w' ⟨⟨v, rfl, hv⟩, hb⟩
  refine ⟨?_, hb⟩
  rcases hv with ⟨k, hk, rfl⟩ | ⟨_, k, t, p, rfl⟩
  · exact absurd hk (h k)
  · exact ⟨k, t, p, rfl⟩
set_option maxRecDepth 1000000 in
set_option maxHeartbeats 1600000 in
theorem addr_any (s : ByteArray) (hs : s.size < 4294967281) (w : World) (hc : Consts w) :
    Calls Tryz.prog 90 #[.string s] w fun e w' => e = .returned (.tuple #[.int .i64 (addrR s.data.toList).1, .int .i64 (addrR s.data.toList).2]) ∧ Below w.heap.size w w' := by
  obtain ⟨m, hm⟩ := hc.most
  have hcut := Lib.hid (splitB_one s 46 ⟨#[46]⟩ rfl)
  have hcnt := Lib.hid (splitB_count s 46 ⟨#[46]⟩ rfl)
  have HC := Lib.hid hc
  clear hc
  have cS := Tryz.strings_Split s ⟨#[46]⟩ m w hs hm (by decide)
  generalize hps : Lib.splitB ⟨#[46]⟩ 0 (Lib.countB s ⟨#[46]⟩) s = ps at *
  generalize hN : Lib.countB s ⟨#[46]⟩ = N at *
  have HS := Lib.hid cS
  clear cS hps hN hm
  by_cases h4 : (N : Int) + 1 = 4
  · have h4' : ((N : Int) + 1 != 4) = false := by simp [h4]
    have hl4 : ps.length = 4 := by have := hcnt.out; omega
    obtain rfl : N = 3 := by omega
    go_enter Tryz.func90, Tryz.ntmps90
    go_wp2_with (go_at_call 61; refine HS.out.mono ?_; rintro e w' ⟨rfl, rfl⟩)
    go_loopg [5, 17] 4 (fun g s5 s17 wx => ∃ (i n : Nat), i + g = 4 ∧ s17 = .int .i64 i ∧ s5 = .int .i64 n ∧
      Hid (Below (w.heap.size + 1) (w.alloc (.cells (ps.map Value.string).toArray 9)) wx ∧ n < 256 ^ i ∧ (if i = 4 then some n else partsA (4 - i) n ((cutAt 46 s.data.toList).drop i)) = addrOf s.data.toList))
    case atStart => exact ⟨0, 0, by omega, rfl, rfl, Below.refl _ _, by decide, rfl⟩
    case round =>
      obtain ⟨i, n, hig, rfl, rfl, HR⟩ := hrel
      have HW := Lib.hid (((Below.refl w.heap.size w).alloc (Nat.le_refl _) (.cells (ps.map Value.string).toArray 9)).trans (HR.out.1.mono (Nat.le_succ _)))
      cases gk with
      | zero =>
        obtain rfl : i = 4 := by omega
        have hr : addrR s.data.toList = ((n : Int), 0) := by
          unfold addrR
          rw [← HR.out.2.2]; rfl
        go_wp2
        go_ret2
        exact ⟨by simp, HW.out⟩
      | succ g =>
        have hi : (i : Int) < 4 := by omega
        obtain ⟨p, hp⟩ : ∃ p, ps[i]? = some p := ⟨_, List.getElem?_eq_getElem (by omega)⟩
        have hcell : wr.cell? ⟨w.heap.size, i, none⟩ = some (.string p) := by
          rw [HR.out.1.cell (Nat.lt_succ_self _)]
          simp [World.cell?, World.alloc, -World.alloc_eq, hp]
        have hmem : p.data.toList ∈ cutAt 46 s.data.toList := by rw [← hcut.out]; exact List.mem_map_of_mem (List.mem_of_getElem? hp)
        have hpl := cutAt_len 46 _ _ hmem
        rw [← Lib.size_eq, ← Lib.size_eq] at hpl
        have hdrop : (cutAt 46 s.data.toList).drop i = p.data.toList :: (cutAt 46 s.data.toList).drop (i + 1) := by
          have h1 : (cutAt 46 s.data.toList)[i]? = some p.data.toList := by rw [← hcut.out, List.getElem?_map, hp]; rfl
          obtain ⟨h2, h3⟩ := List.getElem?_eq_some_iff.1 h1
          rw [List.drop_eq_getElem_cons h2, h3]
        have HD := Lib.hid hdrop
        have hwl : w.heap.size + 1 ≤ wr.heap.size := by have := HR.out.1.size; simpa using this
        have HCr := Lib.hid (HC.out.kept HW.out)
        have hi4 : ¬ i = 4 := by omega
        have hex : partsA (4 - i) n (p.data.toList :: (cutAt 46 s.data.toList).drop (i + 1)) = addrOf s.data.toList := by
          have := HR.out.2.2; rw [if_neg hi4, HD.out] at this; exact this
        have HE := Lib.hid hex
        clear hex hdrop hmem hp
        cases ho : octet p.data.toList with
        | none =>
          have hr : addrR s.data.toList = (0, 150) := by
            unfold addrR
            rw [← HE.out, partsA_bad _ _ _ _ ho]
          by_cases hok : ∃ k, Lib.atoiAll p.data.toList = .ok k
          · obtain ⟨k, hk⟩ := hok
            obtain ⟨k0, k1⟩ := atoi_range hk
            have cA := atoi_ok p (by omega) k hk wr
            by_cases h255 : 255 < k
            · go_wp2_with (go_at_call 116; refine cA.mono ?_; rintro e w2 ⟨rfl, hb⟩)
              go_ret2
              exact ⟨by simp [hr], HW.out.trans (hb.mono (by omega))⟩
            · have cI := fun w2 (hb : Below wr.heap.size wr w2) => itoa_any k k0 k1 w2 (HCr.out.kept hb)
              have hse := str_ne (Lib.itoa k) p
              by_cases hit : Lib.itoa k = p.data.toList
              · rw [decide_eq_true hit] at hse
                by_cases hneg : k < 0
                · go_wp2_with (first | (go_at_call 116; refine cA.mono ?_; rintro e w2 ⟨rfl, hb⟩) | (go_at_call 117; refine (cI _ hb).mono ?_; rintro e w3 ⟨rfl, hb3⟩))
                  go_ret2
                  exact ⟨by simp [hr], HW.out.trans ((hb.trans (hb3.mono hb.size)).mono (by omega))⟩
                · exfalso
                  have h3 : (Lib.itoa k) = Lib.decDigits k.toNat := by unfold Lib.itoa; rw [if_neg hneg]
                  have h4 : octet p.data.toList = some k.toNat := (octet_iff _ _).2 ⟨by rw [hk]; congr 1; omega, by omega, by rw [← h3]; exact hit⟩
                  rw [ho] at h4; cases h4
              · rw [decide_eq_false hit] at hse
                go_wp2_with (first | (go_at_call 116; refine cA.mono ?_; rintro e w2 ⟨rfl, hb⟩) | (go_at_call 117; refine (cI _ hb).mono ?_; rintro e w3 ⟨rfl, hb3⟩))
                go_ret2
                exact ⟨by simp [hr], HW.out.trans ((hb.trans (hb3.mono hb.size)).mono (by omega))⟩
          · have cA := atoi_bad p (by omega) (fun k hk => hok ⟨k, hk⟩) wr HCr.out
            go_wp2_with (go_at_call 116; refine cA.mono ?_; rintro e w2 ⟨⟨k, t, q, rfl⟩, hb⟩)
            go_ret2
            exact ⟨by simp [hr], HW.out.trans (hb.mono (by omega))⟩
        | some v =>
          obtain ⟨hv1, hv2, hv3⟩ := (octet_iff _ _).1 ho
          have cA := atoi_ok p (by omega) v hv1 wr
          have hit : Lib.itoa (v : Int) = p.data.toList := by unfold Lib.itoa; rw [if_neg (by omega)]; simpa using hv3
          have hse := str_ne (Lib.itoa v) p
          rw [decide_eq_true hit] at hse
          have cI := fun w2 (hb : Below wr.heap.size wr w2) => itoa_any (v : Int) (by omega) (by omega) w2 (HCr.out.kept hb)
          have h255 : ¬ (255 : Int) < v := by omega
          have hneg : ¬ (v : Int) < 0 := by omega
          have hp1 : 0 < p.size := by
            rw [Lib.size_eq, ← hv3, decDigits_dd hv2]; unfold dd; split <;> (try split) <;> simp
          have h45 := first_dd (by rw [← hv3, decDigits_dd hv2]) hv2 hp1
          go_wp2_with (first | (go_at_call 116; refine cA.mono ?_; rintro e w2 ⟨rfl, hb⟩) | (go_at_call 117; refine (cI _ hb).mono ?_; rintro e w3 ⟨rfl, hb3⟩))
          go_roundg g
          case measure => omega
          case rel =>
            have hn : n < 256 ^ 3 := Nat.lt_of_lt_of_le HR.out.2.1 (Nat.pow_le_pow_right (by decide) (by omega))
            have hw3 := (hb.trans (hb3.mono hb.size)).mono hwl
            refine ⟨i + 1, n * 256 + v, by omega, by first | rfl | simp, by rw [or_shift n v (by omega) hv2], HR.out.1.trans hw3, ?_, ?_⟩
            · have := HR.out.2.1
              rw [Nat.pow_succ]; omega
            · have h1 := HE.out
              have h2 : (p.data.toList :: (cutAt 46 s.data.toList).drop (i + 1)).length = (3 - i) + 1 := by
                have := congrArg List.length hcut.out
                rw [List.length_map] at this
                rw [List.length_cons, List.length_drop]; omega
              rw [show 4 - i = (3 - i) + 1 by omega, partsA_good _ _ _ _ _ ho h2] at h1
              rw [← h1]
              by_cases h3 : i + 1 = 4
              · rw [if_pos h3, if_pos (by omega)]
              · rw [if_neg h3, if_neg (by omega), show 4 - (i + 1) = 3 - i by omega]
  · have h4' : ((N : Int) + 1 != 4) = true := by simpa using h4
    have hr : addrR s.data.toList = (0, 150) := by
      unfold addrR
      cases ha : addrOf s.data.toList with
      | none => rfl
      | some r =>
        have := partsA_len _ _ _ _ ha
        have h2 := congrArg List.length hcut.out
        have := hcnt.out
        rw [List.length_map] at h2
        omega
    go_enter Tryz.func90, Tryz.ntmps90
    go_wp2_with (go_at_call 61; refine HS.out.mono ?_; rintro e w' ⟨rfl, rfl⟩)
    go_ret2
    exact ⟨by simp [hr], (Below.refl _ _).alloc (Nat.le_refl _) _⟩
end Go.Proofs.Sa
