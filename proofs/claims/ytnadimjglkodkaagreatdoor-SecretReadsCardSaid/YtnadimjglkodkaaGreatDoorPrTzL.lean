/- secrets: the document's Addr. -/
import Derived.Deep.CutBlock
import Derived.Deep.DeepCutAuto
import Derived.Test.YtnadimjglkodkaaGreatDoorPrTzC
namespace Go.Proofs.Sa
open Go Go.RowKit Go.Pl
theorem wrap_dig (v c : Nat) (hv : v < 1000) (h1 : 48 ≤ c) (h2 : c ≤ 57) : wrap64 (wrap64 ((v : Int) * 10) + ((c : Int) - 48)) = ((v * 10 + (c - 48) : Nat) : Int) := by
  have h : wrap64 ((v : Int) * 10) = (v : Int) * 10 := by unfold wrap64; omega
  rw [h]; unfold wrap64; omega
theorem wrap_num (n v : Nat) (hn : n < 16777216) (hv : v < 1000) : wrap64 (wrap64 ((n : Int) * 256) + (v : Int)) = ((n * 256 + v : Nat) : Int) := by
  have h : wrap64 ((n : Int) * 256) = (n : Int) * 256 := by unfold wrap64; omega
  rw [h]; unfold wrap64; omega
theorem heads_stop (k v : Nat) (l : List UInt8) (h : ∀ c ∈ l.head?, dig c = false) : heads k v l = (0, v) := by
  cases k with
  | zero => rfl
  | succ k =>
    cases l with
    | nil => rfl
    | cons c l => have := h c (by simp); simp [heads, this]
theorem readA_bad (k n : Nat) (l : List UInt8) (h : badHead (heads 3 0 l).1 (heads 3 0 l).2 l = true) : readA (k + 1) n l = none := by
  unfold readA; rw [if_pos h]
theorem readA_last (n : Nat) (l : List UInt8) (h : badHead (heads 3 0 l).1 (heads 3 0 l).2 l = false) : readA 1 n l = if l.drop (heads 3 0 l).1 = [] then some (n * 256 + (heads 3 0 l).2) else none := by
  unfold readA; rw [if_neg (by simp [h]), if_pos rfl]
theorem readA_more (k n : Nat) (l : List UInt8) (h : badHead (heads 3 0 l).1 (heads 3 0 l).2 l = false) : readA (k + 2) n l = match l.drop (heads 3 0 l).1 with
    | [] => none
    | c :: r => if c.toNat = 46 then readA (k + 1) (n * 256 + (heads 3 0 l).2) r else none := by
  conv => lhs; unfold readA
  rw [if_neg (by simp [h]), if_neg (by omega)]
  cases l.drop (heads 3 0 l).1 <;> rfl
theorem addr_none {l : List UInt8} (h : addrOf l = none) : addrR l = (0, 150) := by unfold addrR; rw [h]
theorem addr_some {l : List UInt8} {k : Nat} (h : addrOf l = some k) : addrR l = ((k : Int), 0) := by unfold addrR; rw [h]
set_option maxRecDepth 1000000 in
set_option maxHeartbeats 12800000 in
theorem raddr_any (s : ByteArray) (hs : s.size < 4294967281) (w : World) :
    Calls Tryz.prog 77 #[.string s] w fun e w' => e = .returned (.tuple #[.int .i64 (addrR s.data.toList).1, .int .i64 (addrR s.data.toList).2]) ∧ w' = w := by
  have hA : readA 4 0 s.data.toList = addrOf s.data.toList := readA_parts 4 0 _
  have HA := Lib.hid hA
  clear hA
  go_enter Tryz.func77, Tryz.ntmps77
  go_wp2
  go_loopg [4, 5, 6] 4 (fun g s4 s5 s6 wx => ∃ p n fr : Nat, p + g = 4 ∧ 0 < g ∧ s4 = .int .i64 p ∧ s5 = .int .i64 n ∧ s6 = .int .i64 fr ∧ wx = w ∧ fr ≤ s.size ∧ n < 256 ^ p ∧ Hid (readA (4 - p) n (s.data.toList.drop fr) = addrOf s.data.toList))
  case atStart => exact ⟨0, 0, 0, by omega, by omega, rfl, rfl, rfl, rfl, Nat.zero_le _, by decide, HA.out⟩
  case round =>
    obtain ⟨p, n, fr, hpg, hg0, rfl, rfl, rfl, rfl, hfr, hnb, HR⟩ := hrel
    cases gk with
    | zero => omega
    | succ g =>
      have hnb4 : n < 256 ^ 3 := Nat.lt_of_lt_of_le hnb (Nat.pow_le_pow_right (by decide) (by omega))
      go_upto_block 2 with fail
      go_cut [7, 8] (fun s7 s8 wx => ∃ m v : Nat, s7 = .int .i64 ((fr + m : Nat) : Int) ∧ s8 = .int .i64 v ∧ wx = wr ∧ fr + m ≤ s.size ∧ v < 1000 ∧ m ≤ 3 ∧ m = (heads 3 0 (s.data.toList.drop fr)).1 ∧ v = (heads 3 0 (s.data.toList.drop fr)).2)
      case first =>
        go_wp2
        go_loopg [7, 8] 3 (fun g2 s7 s8 wx => ∃ m v : Nat, m + g2 = 3 ∧ s7 = .int .i64 ((fr + m : Nat) : Int) ∧ s8 = .int .i64 v ∧ wx = wr ∧ fr + m ≤ s.size ∧ v < 10 ^ m ∧
          Hid ((heads (3 - m) v (s.data.toList.drop (fr + m))).1 + m = (heads 3 0 (s.data.toList.drop fr)).1 ∧ (heads (3 - m) v (s.data.toList.drop (fr + m))).2 = (heads 3 0 (s.data.toList.drop fr)).2))
        case atStart => exact ⟨0, 0, by omega, by simp, rfl, rfl, by omega, by decide, rfl, rfl⟩
        case round =>
          obtain ⟨m, v, hmg, rfl, rfl, hwx, hfm, hvb, HH⟩ := hrel
          subst hwx
          have hd : ∀ he : fr + m < s.size, s.data.toList.drop (fr + m) = s[fr + m] :: s.data.toList.drop (fr + m + 1) := fun he => by
            rw [List.drop_eq_getElem_cons (by rw [← Lib.size_eq]; exact he)]; rfl
          have hstep : (∃ he : fr + m < s.size, 48 ≤ (s[fr + m]).toNat ∧ (s[fr + m]).toNat ≤ 57 ∧ m < 3) ∨
              ((¬ fr + m < s.size ∨ ∃ he : fr + m < s.size, (s[fr + m]).toNat < 48 ∨ (48 ≤ (s[fr + m]).toNat ∧ 57 < (s[fr + m]).toNat) ∨ (48 ≤ (s[fr + m]).toNat ∧ (s[fr + m]).toNat ≤ 57 ∧ m = 3)) ∧ m = (heads 3 0 (s.data.toList.drop fr)).1 ∧ v = (heads 3 0 (s.data.toList.drop fr)).2) := by
            by_cases he : fr + m < s.size
            · have h1 := hd he
              by_cases hdg : 48 ≤ (s[fr + m]).toNat ∧ (s[fr + m]).toNat ≤ 57
              · by_cases hm3 : m < 3
                · exact .inl ⟨he, hdg.1, hdg.2, hm3⟩
                · obtain rfl : m = 3 := by omega
                  refine .inr ⟨.inr ⟨he, .inr (.inr ⟨hdg.1, hdg.2, rfl⟩)⟩, ?_⟩
                  have := HH.out
                  simp only [Nat.sub_self, heads, Nat.zero_add] at this
                  exact this
              · have hns : dig (s[fr + m]) = false := by unfold dig; simp; omega
                have hst := heads_stop (3 - m) v (s.data.toList.drop (fr + m)) (by rw [h1]; intro c hc; simp at hc; rw [← hc]; exact hns)
                have := HH.out
                rw [hst] at this
                refine .inr ⟨.inr ⟨he, ?_⟩, by simpa using this.1, this.2⟩
                omega
            · have h1 : s.data.toList.drop (fr + m) = [] := List.drop_eq_nil_of_le (by rw [← Lib.size_eq]; omega)
              have hst := heads_stop (3 - m) v (s.data.toList.drop (fr + m)) (by rw [h1]; intro c hc; simp at hc)
              have := HH.out
              rw [hst] at this
              exact .inr ⟨.inl he, by simpa using this.1, this.2⟩
          rcases hstep with ⟨he, d1, d2, d3⟩ | ⟨hex, hm, hv⟩
          · obtain ⟨g3, rfl⟩ : ∃ g3, gk = g3 + 1 := ⟨gk - 1, by omega⟩
            have h1 := hd he
            have c0 : ((fr + m : Nat) : Int) < (s.size : Int) := by omega
            have c1 : (48 : Int) ≤ ((s[fr + m]).toNat : Int) := by omega
            have c2 : ((s[fr + m]).toNat : Int) ≤ 57 := by omega
            have c3 : ((fr + m : Nat) : Int) - (fr : Int) < 3 := by omega
            have hdg : dig (s[fr + m]) = true := by unfold dig; simp [d1, d2]
            have hH := HH.out
            rw [h1, show 3 - m = (3 - (m + 1)) + 1 by omega] at hH
            simp only [heads, hdg, if_true] at hH
            have HH2 := Lib.hid hH
            have hw : wrap64 (wrap64 ((v : Int) * 10) + (((s[fr + m]).toNat : Int) - 48)) = ((v * 10 + ((s[fr + m]).toNat - 48) : Nat) : Int) := by
              exact wrap_dig v _ (Nat.lt_of_lt_of_le hvb (Nat.pow_le_pow_right (by decide) (by omega) : 10 ^ m ≤ 10 ^ 3)) d1 d2
            clear hH hdg h1
            go_wp2
            go_roundg g3
            case measure => omega
            case rel =>
              refine ⟨m + 1, v * 10 + ((s[fr + m]).toNat - 48), by omega, by first | (simp; done) | (congr 1; omega) | (simp; omega), by rw [← hw], rfl, by omega, ?_, ?_, ?_⟩
              · rw [Nat.pow_succ]; omega
              · have := HH2.out.1
                rw [← this]
                rw [show fr + (m + 1) = fr + m + 1 by omega]; omega
              · have := HH2.out.2
                rw [← this]
                rw [show fr + (m + 1) = fr + m + 1 by omega]
          · have HFIN := Lib.hid (show v < 1000 ∧ m ≤ 3 ∧ m = (heads 3 0 (s.data.toList.drop fr)).1 ∧ v = (heads 3 0 (s.data.toList.drop fr)).2 from
              ⟨Nat.lt_of_lt_of_le hvb (Nat.pow_le_pow_right (by decide) (by omega) : 10 ^ m ≤ 10 ^ 3), by omega, hm, hv⟩)
            clear hm hv
            rcases hex with hex | ⟨he, hex | ⟨hex, hex2⟩ | ⟨hex, hex2, hex3⟩⟩
            · have c0 : ¬ (fr : Int) + (m : Int) < (s.size : Int) := by omega
              go_wp2
              go_meet
              exact ⟨m, v, by simp, by first | rfl | simp, rfl, hfm, HFIN.out⟩
            · have c0 : (fr : Int) + (m : Int) < (s.size : Int) := by omega
              have c1 : ¬ (48 : Int) ≤ ((s[fr + m]).toNat : Int) := by omega
              go_wp2
              go_meet
              exact ⟨m, v, by simp, by first | rfl | simp, rfl, hfm, HFIN.out⟩
            · have c0 : (fr : Int) + (m : Int) < (s.size : Int) := by omega
              have c1 : (48 : Int) ≤ ((s[fr + m]).toNat : Int) := by omega
              have c2 : ¬ ((s[fr + m]).toNat : Int) ≤ 57 := by omega
              go_wp2
              go_meet
              exact ⟨m, v, by simp, by first | rfl | simp, rfl, hfm, HFIN.out⟩
            · subst hex3
              have c0 : (fr : Int) + 3 < (s.size : Int) := by omega
              have c1 : (48 : Int) ≤ ((s[fr + 3]).toNat : Int) := by omega
              have c2 : ((s[fr + 3]).toNat : Int) ≤ 57 := by omega
              have c3 : ¬ (fr : Int) + 3 - (fr : Int) < 3 := by omega
              go_wp2
              go_meet
              exact ⟨3, v, by simp, by first | rfl | simp, rfl, hfm, HFIN.out⟩
      case rest =>
        obtain ⟨m, v, rfl, rfl, rfl, hfm, hvb, hm3, hm, hv⟩ := hcut
        have hd : ∀ he : fr + m < s.size, s.data.toList.drop (fr + m) = s[fr + m] :: s.data.toList.drop (fr + m + 1) := fun he => by
          rw [List.drop_eq_getElem_cons (by rw [← Lib.size_eq]; exact he)]; rfl
        have hbadr : ∀ hb : badHead m v (s.data.toList.drop fr) = true, addrR s.data.toList = (0, 150) := fun hb => by
          rw [hm, hv] at hb
          have hRR := HR.out
          rw [show 4 - p = (3 - p) + 1 by omega, readA_bad _ _ _ hb] at hRR
          exact addr_none hRR.symm
        by_cases b1 : m = 0
        · have hr := hbadr (by unfold badHead; rw [b1]; rfl)
          have hb1 : ((fr : Int) + (m : Int) == (fr : Int)) = true := by simp; omega
          try clear hbadr
          try clear hm
          try clear hv
          try clear hd
          try clear hgood
          try clear hhead
          try clear hm0
          try clear hv0
          try clear hnil
          try clear hnn
          try clear hbad
          go_wp2
          go_ret2
          exact ⟨by simp [hr], rfl⟩
        have hb1 : ((fr : Int) + (m : Int) == (fr : Int)) = false := by simp; omega
        by_cases b2 : 255 < v
        · have hr := hbadr (by unfold badHead; simp [b2])
          have hb2 : (255 : Int) < (v : Int) := by omega
          try clear hbadr
          try clear hm
          try clear hv
          try clear hd
          try clear hgood
          try clear hhead
          try clear hm0
          try clear hv0
          try clear hnil
          try clear hnn
          try clear hbad
          go_wp2
          go_ret2
          exact ⟨by simp [hr], rfl⟩
        have hb2 : ¬ (255 : Int) < (v : Int) := by omega
        have hfl : fr < s.size := by omega
        have hhead : (s.data.toList.drop fr).headD 0 = s[fr] := by
          rw [List.drop_eq_getElem_cons (by rw [← Lib.size_eq]; exact hfl)]; rfl
        have hm0 : (m == 0) = false := by simp [b1]
        have hv0 : decide (255 < v) = false := by simp; omega
        by_cases b3 : 1 < m
        · have hb3 : (1 : Int) < (fr : Int) + (m : Int) - (fr : Int) := by omega
          by_cases b4 : (s[fr]).toNat = 48
          · have hr := hbadr (by unfold badHead; rw [hhead]; simp [b3, b4])
            have hb4 : (((s[fr]).toNat : Int) == 48) = true := by simp; omega
            try clear hbadr
            try clear hm
            try clear hv
            try clear hd
            try clear hgood
            try clear hhead
            try clear hm0
            try clear hv0
            try clear hnil
            try clear hnn
            try clear hbad
            go_wp2
            go_ret2
            exact ⟨by simp, rfl⟩
          · have hb4 : (((s[fr]).toNat : Int) == 48) = false := by simp; omega
            have hgood : badHead (heads 3 0 (s.data.toList.drop fr)).1 (heads 3 0 (s.data.toList.drop fr)).2 (s.data.toList.drop fr) = false := by
              rw [← hm, ← hv]; unfold badHead; rw [hhead, hm0, hv0]; simp [b4]
            clear hbadr
            by_cases hp3 : p = 3
            · have hp3' : ((p : Int) + 1 == 4) = true := by simp; omega
              have hRR := HR.out
              rw [show 4 - p = 1 by omega, readA_last _ _ hgood, ← hm, ← hv, List.drop_drop] at hRR
              by_cases hend : fr + m = s.size
              · have he1 : ((fr : Int) + (m : Int) != (s.size : Int)) = false := by simp; omega
                have hnil : s.data.toList.drop (fr + m) = [] := List.drop_eq_nil_of_le (by rw [← Lib.size_eq]; omega)
                rw [hnil, if_pos rfl] at hRR
                have hr := addr_some hRR.symm
                have hwn : wrap64 (wrap64 ((n : Int) * 256) + (v : Int)) = ((n * 256 + v : Nat) : Int) := wrap_num n v hnb4 hvb
                clear hRR
                try clear hbadr
                try clear hm
                try clear hv
                try clear hd
                try clear hgood
                try clear hhead
                try clear hm0
                try clear hv0
                try clear hnil
                try clear hnn
                try clear hbad
                go_wp2
                go_ret2
                exact ⟨by simp, rfl⟩
              · have he1 : ((fr : Int) + (m : Int) != (s.size : Int)) = true := by simp; omega
                have hnn : s.data.toList.drop (fr + m) ≠ [] := by
                  intro h
                  have := List.drop_eq_nil_iff.1 h
                  rw [← Lib.size_eq] at this
                  omega
                rw [if_neg hnn] at hRR
                have hr := addr_none hRR.symm
                clear hRR
                try clear hbadr
                try clear hm
                try clear hv
                try clear hd
                try clear hgood
                try clear hhead
                try clear hm0
                try clear hv0
                try clear hnil
                try clear hnn
                try clear hbad
                go_wp2
                go_ret2
                exact ⟨by simp, rfl⟩
            · have hp3' : ((p : Int) + 1 == 4) = false := by simp; omega
              have hRR := HR.out
              rw [show 4 - p = (2 - p) + 2 by omega, readA_more _ _ _ hgood, ← hm, ← hv, List.drop_drop] at hRR
              by_cases hend : fr + m < s.size
              · have hel : ¬ (s.size : Int) ≤ (fr : Int) + (m : Int) := by omega
                rw [hd hend] at hRR
                simp only at hRR
                by_cases h46 : (s[fr + m]).toNat = 46
                · have h46' : (((s[fr + m]).toNat : Int) != 46) = false := by simp; omega
                  rw [if_pos h46] at hRR
                  have HRR := Lib.hid hRR
                  have hwn : wrap64 (wrap64 ((n : Int) * 256) + (v : Int)) = ((n * 256 + v : Nat) : Int) := wrap_num n v hnb4 hvb
                  clear hRR
                  try clear hbadr
                  try clear hm
                  try clear hv
                  try clear hd
                  try clear hgood
                  try clear hhead
                  try clear hm0
                  try clear hv0
                  try clear hnil
                  try clear hnn
                  try clear hbad
                  go_wp2
                  go_roundg g
                  case measure => omega
                  case rel =>
                    refine ⟨p + 1, n * 256 + v, fr + m + 1, by omega, by omega, by first | rfl | simp, by first | (rw [hwn]; done) | simp | (congr 1), by first | rfl | (simp; done) | (congr 1; omega), rfl, by omega, ?_, ?_⟩
                    · rw [Nat.pow_succ]; omega
                    · show readA (4 - (p + 1)) _ _ = _
                      rw [show 4 - (p + 1) = (2 - p) + 1 by omega]; exact HRR.out
                · have h46' : (((s[fr + m]).toNat : Int) != 46) = true := by simp; omega
                  rw [if_neg h46] at hRR
                  have hr := addr_none hRR.symm
                  clear hRR
                  try clear hbadr
                  try clear hm
                  try clear hv
                  try clear hd
                  try clear hgood
                  try clear hhead
                  try clear hm0
                  try clear hv0
                  try clear hnil
                  try clear hnn
                  try clear hbad
                  go_wp2
                  go_ret2
                  exact ⟨by simp [hr], rfl⟩
              · have hel : (s.size : Int) ≤ (fr : Int) + (m : Int) := by omega
                have hnil : s.data.toList.drop (fr + m) = [] := List.drop_eq_nil_of_le (by rw [← Lib.size_eq]; omega)
                rw [hnil] at hRR
                have hr := addr_none hRR.symm
                clear hRR
                try clear hbadr
                try clear hm
                try clear hv
                try clear hd
                try clear hgood
                try clear hhead
                try clear hm0
                try clear hv0
                try clear hnil
                try clear hnn
                try clear hbad
                go_wp2
                go_ret2
                exact ⟨by simp, rfl⟩
        · have hb3 : ¬ (1 : Int) < (fr : Int) + (m : Int) - (fr : Int) := by omega
          have hgood : badHead (heads 3 0 (s.data.toList.drop fr)).1 (heads 3 0 (s.data.toList.drop fr)).2 (s.data.toList.drop fr) = false := by
            rw [← hm, ← hv]; unfold badHead; rw [hm0, hv0]; simp [b3]
          clear hbadr
          by_cases hp3 : p = 3
          · have hp3' : ((p : Int) + 1 == 4) = true := by simp; omega
            have hRR := HR.out
            rw [show 4 - p = 1 by omega, readA_last _ _ hgood, ← hm, ← hv, List.drop_drop] at hRR
            by_cases hend : fr + m = s.size
            · have he1 : ((fr : Int) + (m : Int) != (s.size : Int)) = false := by simp; omega
              have hnil : s.data.toList.drop (fr + m) = [] := List.drop_eq_nil_of_le (by rw [← Lib.size_eq]; omega)
              rw [hnil, if_pos rfl] at hRR
              have hr := addr_some hRR.symm
              have hwn : wrap64 (wrap64 ((n : Int) * 256) + (v : Int)) = ((n * 256 + v : Nat) : Int) := wrap_num n v hnb4 hvb
              clear hRR
              try clear hbadr
              try clear hm
              try clear hv
              try clear hd
              try clear hgood
              try clear hhead
              try clear hm0
              try clear hv0
              try clear hnil
              try clear hnn
              try clear hbad
              go_wp2
              go_ret2
              exact ⟨by simp, rfl⟩
            · have he1 : ((fr : Int) + (m : Int) != (s.size : Int)) = true := by simp; omega
              have hnn : s.data.toList.drop (fr + m) ≠ [] := by
                intro h
                have := List.drop_eq_nil_iff.1 h
                rw [← Lib.size_eq] at this
                omega
              rw [if_neg hnn] at hRR
              have hr := addr_none hRR.symm
              clear hRR
              try clear hbadr
              try clear hm
              try clear hv
              try clear hd
              try clear hgood
              try clear hhead
              try clear hm0
              try clear hv0
              try clear hnil
              try clear hnn
              try clear hbad
              go_wp2
              go_ret2
              exact ⟨by simp, rfl⟩
          · have hp3' : ((p : Int) + 1 == 4) = false := by simp; omega
            have hRR := HR.out
            rw [show 4 - p = (2 - p) + 2 by omega, readA_more _ _ _ hgood, ← hm, ← hv, List.drop_drop] at hRR
            by_cases hend : fr + m < s.size
            · have hel : ¬ (s.size : Int) ≤ (fr : Int) + (m : Int) := by omega
              rw [hd hend] at hRR
              simp only at hRR
              by_cases h46 : (s[fr + m]).toNat = 46
              · have h46' : (((s[fr + m]).toNat : Int) != 46) = false := by simp; omega
                rw [if_pos h46] at hRR
                have HRR := Lib.hid hRR
                have hwn : wrap64 (wrap64 ((n : Int) * 256) + (v : Int)) = ((n * 256 + v : Nat) : Int) := wrap_num n v hnb4 hvb
                clear hRR
                try clear hbadr
                try clear hm
                try clear hv
                try clear hd
                try clear hgood
                try clear hhead
                try clear hm0
                try clear hv0
                try clear hnil
                try clear hnn
                try clear hbad
                go_wp2
                go_roundg g
                case measure => omega
                case rel =>
                  refine ⟨p + 1, n * 256 + v, fr + m + 1, by omega, by omega, by first | rfl | simp, by first | (rw [hwn]; done) | simp | (congr 1), by first | rfl | (simp; done) | (congr 1; omega), rfl, by omega, ?_, ?_⟩
                  · rw [Nat.pow_succ]; omega
                  · show readA (4 - (p + 1)) _ _ = _
                    rw [show 4 - (p + 1) = (2 - p) + 1 by omega]; exact HRR.out
              · have h46' : (((s[fr + m]).toNat : Int) != 46) = true := by simp; omega
                rw [if_neg h46] at hRR
                have hr := addr_none hRR.symm
                clear hRR
                try clear hbadr
                try clear hm
                try clear hv
                try clear hd
                try clear hgood
                try clear hhead
                try clear hm0
                try clear hv0
                try clear hnil
                try clear hnn
                try clear hbad
                go_wp2
                go_ret2
                exact ⟨by simp [hr], rfl⟩
            · have hel : (s.size : Int) ≤ (fr : Int) + (m : Int) := by omega
              have hnil : s.data.toList.drop (fr + m) = [] := List.drop_eq_nil_of_le (by rw [← Lib.size_eq]; omega)
              rw [hnil] at hRR
              have hr := addr_none hRR.symm
              clear hRR
              try clear hbadr
              try clear hm
              try clear hv
              try clear hd
              try clear hgood
              try clear hhead
              try clear hm0
              try clear hv0
              try clear hnil
              try clear hnn
              try clear hbad
              go_wp2
              go_ret2
              exact ⟨by simp, rfl⟩
end Go.Proofs.Sa
