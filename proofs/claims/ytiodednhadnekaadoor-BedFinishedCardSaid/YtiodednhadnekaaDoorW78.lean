/- Walks: BedFinished. -/
import Derived.Test.YtiodednhadnekaaDoorPlain16
import Derived.Test.YtiodednhadnekaaDoorTabA
namespace Go.Proofs.YtiodednhadnekaaDoor
open Go.RowKit Go.Deep
attribute [local go_sem ↓] Go.wp_at_zero Go.wp_at_succ

/-- A bed with fewer crops than its size can be filled. -/
def EvansP : Prop := ∀ (n : Nat) (b : List (List Int)), 1 ≤ n → n ≤ 7 → IsBed n b → sw n b n < n → canB n b = true
set_option maxRecDepth 100000 in
set_option maxHeartbeats 8000000 in
/-- dibberlaw01.BedFinished -/
theorem f10_if (HEV : EvansP) (A : Option Addr) (n c : Nat) (b : List (List Int)) (w : World) (hs : CameB w A n c b) (ht : Tab w) :
    Calls Tryd.prog 10 #[.slice A n c] w fun e w' => e = .returned (.bool true) ∧ Below w.heap.size w w' := by
  have K16 := Lib.hid (f16_any A c n (b.map List.length) w hs.1)
  have HT := Lib.hid ht
  cases hf : fewB (b.map List.length)
  · rw [hf] at K16
    have K17 := Lib.hid (f17_any w ht)
    clear hs hf ht
    go_enter Tryd.func10, Tryd.ntmps10
    go_wp2_with fail
    refine K16.out.mono ?_
    rintro e w1 ⟨rfl, rfl⟩
    go_wp2_with fail
    refine K17.out.mono ?_
    rintro e w2 ⟨rfl, hb⟩
    have HB := Lib.hid hb
    clear hb
    go_wp2
    go_ret
    exact ⟨rfl, HB.out⟩
  · rw [hf] at K16
    have hB := hs.beds hf
    have HB := Lib.hid hB
    have K19 := Lib.hid (f19_any A n c b w hB ht)
    have hbl := hB.len
    cases hbed : bedB b
    · have HE : Hid (fillE b = 2 ∧ fillL b = []) := Lib.hid (by unfold fillE fillL; rw [hbed]; exact ⟨rfl, rfl⟩)
      have HBED := Lib.hid hbed
      clear hs hf ht hB hbed hbl
      go_enter Tryd.func10, Tryd.ntmps10
      go_wp2_with fail
      refine K16.out.mono ?_
      rintro e w1 ⟨rfl, rfl⟩
      go_wp2_with fail
      refine K19.out.mono ?_
      rintro e w2 ⟨A2, k2, c2, rfl, hn2, hb2⟩
      have hk : k2 = 0 := by have := hn2.1; rw [HE.out.2] at this; exact this.symm
      subst hk
      rw [HE.out.1]
      have B2 := Lib.hid hb2
      have K37 := f37_any A n c b w2 (HB.out.below hb2)
      rw [HBED.out] at K37
      have K37 := Lib.hid K37
      clear hn2 hb2 K19 K16
      go_wp2_with fail
      refine K37.out.mono ?_
      rintro e w3 ⟨rfl, rfl⟩
      go_wp2_with fail
      refine (f17_any w2 (HT.out.below B2.out)).mono ?_
      rintro e w4 ⟨rfl, hb4⟩
      have B4 := Lib.hid (below_step B2.out hb4)
      clear hb4
      go_wp2
      go_ret
      exact ⟨rfl, B4.out⟩
    · obtain ⟨hn1, hn7, hbd⟩ := bedB_iff.1 hbed
      rw [hbl] at hn1 hn7 hbd
      have HBED := Lib.hid hbed
      have HEVB : Hid (sw n b n < n → canB n b = true) := Lib.hid (HEV n b hn1 hn7 hbd)
      have HFULL : Hid (canB n b = true → IsFull n (fillTo n b n) ∧ ∀ r c, 0 ≤ gAt b r c → gAt (fillTo n b n) r c = gAt b r c) := Lib.hid (fill_full hbd)
      have HE : Hid (fillE b = (if canB n b = true then 0 else 10) ∧ fillL b = if canB n b = true then fillTo n b n else []) := Lib.hid (by
        unfold fillE fillL; rw [hbed, hbl]; exact ⟨rfl, rfl⟩)
      have HLEN : Hid (∀ r, r < n → (b.getD r []).length = n) := Lib.hid fun r hr => hbd.shape.2 r hr
      have HC : Hid (n ≤ 5 → cntN b = cnt n b ∧ cntE b = 0) := Lib.hid (fun h => by
        have h2 : cntOk b := ⟨hbed, by omega⟩
        unfold cntN cntE; rw [if_pos h2, if_pos h2, hbl]; exact ⟨rfl, rfl⟩)
      have HSW : Hid (∀ r, r ≤ n → sw n b r ≤ 49) := Lib.hid (fun r hr => by
        have h1 := sw_le n b r
        have h2 : r * n ≤ 7 * 7 := Nat.mul_le_mul (by omega) hn7
        omega)
      have HSW1 : Hid (∀ r c, sw1 b r c ≤ c) := Lib.hid (sw1_le b)
      have HS1 : Hid (∀ r c, sw1 b r (c + 1) = sw1 b r c + if 0 ≤ gAt b r c then 1 else 0) := Lib.hid fun _ _ => rfl
      have HSS : Hid (∀ r, sw n b (r + 1) = sw n b r + sw1 b r n) := Lib.hid fun _ => rfl
      have HS0 : Hid (sw n b 0 = 0 ∧ ∀ r, sw1 b r 0 = 0) := Lib.hid ⟨rfl, fun _ => rfl⟩
      clear hs hf ht hB hbed hbl hbd HEV
      go_enter Tryd.func10, Tryd.ntmps10
      go_wp2_with fail
      refine K16.out.mono ?_
      rintro e w1 ⟨rfl, rfl⟩
      go_wp2_with fail
      refine K19.out.mono ?_
      rintro e w2 ⟨A2, k2, c2, rfl, hn2, hb2⟩
      have B2 := Lib.hid hb2
      have HS := Lib.hid (HB.out.below hb2)
      have K37 := f37_any A n c b w2 (HB.out.below hb2)
      rw [HBED.out] at K37
      have K37 := Lib.hid K37
      have hN2 := hn2.beds
      have HK : Hid (k2 = (fillL b).length) := Lib.hid hn2.1.symm
      have HN2 := Lib.hid hN2
      obtain ⟨E, hE⟩ : ∃ z, z = fillE b := ⟨_, rfl⟩
      rw [← hE] at HE ⊢
      have hn0 : (0 : Int) ≤ (n : Int) := by omega
      clear hn2 hb2 hN2 K19 K16 hE
      go_wp2_with fail
      refine K37.out.mono ?_
      rintro e w3 ⟨rfl, rfl⟩
      go_wp2
      go_loop [7, 6] (fun ri si => ∃ (r s : Nat), r ≤ n ∧ ri = .int .i64 (r : Int) ∧ si = .int .i64 (s : Int) ∧ Hid (s = sw n b r)) (fun ri _ => n - (intOf ri).toNat)
      case atStart => exact ⟨0, 0, by omega, rfl, rfl, HS0.out.1.symm⟩
      case round => as_aux_lemma =>
        obtain ⟨r, s, hr, rfl, rfl, hsr⟩ := hrel
        by_cases hrn : r < n
        · obtain ⟨g, o, rfl, D, d, hc, _, _, hi⟩ := HS.out.at_ hrn
          rw [HLEN.out r hrn] at hc hi
          have HI := Lib.hid hi
          have r0 : (0 : Int) ≤ (r : Int) := by omega
          have rn : (r : Int) < (n : Int) := by omega
          have hs49 : s ≤ 49 := by rw [hsr.out]; exact HSW.out r (by omega)
          clear hi
          go_wp2
          go_loop [8, 6] (fun ki si => ∃ (k t : Nat), k ≤ n ∧ ki = .int .i64 (k : Int) ∧ si = .int .i64 (t : Int) ∧ Hid (t = s + sw1 b r k)) (fun ki _ => n - (intOf ki).toNat)
          case atStart => exact ⟨0, s, by omega, rfl, rfl, by rw [HS0.out.2]; rfl⟩
          case round => as_aux_lemma =>
            obtain ⟨k, t, hk, rfl, rfl, htk⟩ := hrel
            have ht56 : t ≤ 56 := by have h1 := htk.out; have h2 := HSW1.out r k; omega
            by_cases hkn : k < n
            · obtain ⟨g2, o2, rfl, hc2⟩ := HI.out.at_ hkn
              have k0 : (0 : Int) ≤ (k : Int) := by omega
              have kn : (k : Int) < (n : Int) := by omega
              have HNX := Lib.hid (HS1.out r k)
              have hx : (b.getD r []).getD k 0 = gAt b r k := rfl
              rw [hx] at hc2
              generalize gAt b r k = x at *
              by_cases hx0 : 0 ≤ x
              · have HN : Hid (sw1 b r (k + 1) = sw1 b r k + 1) := Lib.hid (by rw [HNX.out, if_pos hx0])
                clear hx HNX
                go_wp2
                go_round
                case rel => exact ⟨k + 1, t + 1, by omega, by go_num, by go_num, by rw [HN.out, htk.out]; rfl⟩
                case measure => simp [intOf]; omega
              · have HN : Hid (sw1 b r (k + 1) = sw1 b r k) := Lib.hid (by rw [HNX.out, if_neg hx0]; rfl)
                clear hx HNX
                go_wp2
                go_round
                case rel => exact ⟨k + 1, t, by omega, by go_num, rfl, by rw [HN.out]; exact htk.out⟩
                case measure => simp [intOf]; omega
            · obtain rfl : k = n := by omega
              have HN : Hid (t = sw k b (r + 1)) := Lib.hid (by rw [HSS.out, htk.out, hsr.out])
              go_wp2
              go_round
              case rel => exact ⟨r + 1, t, by omega, by go_num, rfl, HN.out⟩
              case measure => simp [intOf]; omega
        · obtain rfl : r = n := by omega
          obtain ⟨n, rfl⟩ : ∃ z, z = r := ⟨_, rfl⟩
          obtain ⟨S, rfl⟩ : ∃ z, z = s := ⟨_, rfl⟩
          have HSL := Lib.hid hsr.out
          have hS49 : S ≤ 49 := by rw [hsr.out]; exact HSW.out n (by omega)
          clear hsr HSW HSW1 HS1 HSS HS0 hr hrn
          cases hcan : canB n b
          · have HE2 : Hid (E = 10 ∧ fillL b = []) := Lib.hid (by
              have h1 := HE.out
              rw [hcan] at h1
              exact h1)
            have hSn : ¬ S < n := fun h => by
              have := HEVB.out (by rw [← HSL.out]; exact h)
              rw [hcan] at this; cases this
            have hSi : ¬ (S : Int) < (n : Int) := by omega
            have hk : k2 = 0 := by rw [HK.out, HE2.out.2]; rfl
            have hE10 : E = 10 := HE2.out.1
            subst hk
            subst hE10
            have KC : Hid (∀ W, Below w.heap.size w W → n ≤ 5 → Calls Tryd.prog 35 #[.slice A n c] W fun e w' => e = .returned (.tuple #[.int .i64 0, .int .i64 0]) ∧ Below W.heap.size W w') := Lib.hid (fun W hW h5 => by
              have h1 := f35_any A n c b W (HB.out.below hW) (HT.out.below hW)
              rw [(HC.out h5).1, (HC.out h5).2, can_not.1 hcan] at h1
              exact h1)
            clear HE HE2 HEVB HFULL HN2 HK hcan
            rcases Nat.lt_or_ge 4 n with n4 | n4
            · have m4 : (4 : Int) < (n : Int) := by omega
              rcases Nat.lt_or_ge 5 n with n5 | n5
              · have m5 : (5 : Int) < (n : Int) := by omega
                clear HS HSL
                go_wp2_with fail
                refine (f17_any w2 (HT.out.below B2.out)).mono ?_
                rintro e wz ⟨rfl, hbz⟩
                have BZ := Lib.hid (below_step B2.out hbz)
                clear hbz
                go_wp2
                go_ret
                exact ⟨rfl, BZ.out⟩
              · have m5 : ¬ (5 : Int) < (n : Int) := by omega
                have k5 : ¬ 5 < n := by omega
                by_cases hS0 : S = 0
                · exfalso; omega
                · have q0 : ((S : Int) == 0) = false := by rw [beq_eq_false_iff_ne]; omega
                  have q1 : (S == 0) = false := by rw [beq_eq_false_iff_ne]; omega
                  have K35 := Lib.hid (KC.out w2 B2.out (by omega))
                  clear HS HSL
                  go_wp2_with fail
                  refine K35.out.mono ?_
                  rintro e wy ⟨rfl, hby⟩
                  have BY := Lib.hid (below_step B2.out hby)
                  clear hby
                  go_wp2_with fail
                  refine (f17_any wy (HT.out.below BY.out)).mono ?_
                  rintro e wz ⟨rfl, hbz⟩
                  have BZ := Lib.hid (below_step BY.out hbz)
                  clear hbz
                  go_wp2
                  go_ret
                  exact ⟨rfl, BZ.out⟩
            · have m4 : ¬ (4 : Int) < (n : Int) := by omega
              have k4 : ¬ 4 < n := by omega
              have K35 := Lib.hid (KC.out w2 B2.out (by omega))
              clear HS HSL
              go_wp2_with fail
              refine K35.out.mono ?_
              rintro e wy ⟨rfl, hby⟩
              have BY := Lib.hid (below_step B2.out hby)
              clear hby
              go_wp2_with fail
              refine (f17_any wy (HT.out.below BY.out)).mono ?_
              rintro e wz ⟨rfl, hbz⟩
              have BZ := Lib.hid (below_step BY.out hbz)
              clear hbz
              go_wp2
              go_ret
              exact ⟨rfl, BZ.out⟩
          · obtain ⟨hfull, hext⟩ := HFULL.out hcan
            have HE2 : Hid (E = 0 ∧ fillL b = fillTo n b n) := Lib.hid (by
              have h1 := HE.out
              rw [hcan] at h1
              exact h1)
            have hlen : (fillL b).length = n := by rw [HE2.out.2]; exact hfull.shape.1
            have hk : k2 = n := by rw [HK.out]; exact hlen
            have hE0 : E = 0 := HE2.out.1
            subst hk
            subst hE0
            obtain ⟨n, rfl⟩ : ∃ z, z = k2 := ⟨_, rfl⟩
            have HF : Hid (fullB (fillL b) = true) := Lib.hid (fullB_iff.2 (by rw [hlen, HE2.out.2]; exact ⟨hn1, hn7, hfull⟩))
            have HX : Hid (∀ r c, 0 ≤ gAt b r c → gAt (fillL b) r c = gAt b r c) := Lib.hid (by rw [HE2.out.2]; exact hext)
            have HLL : Hid (∀ r, r < n → ((fillL b).getD r []).length = n) := Lib.hid (by rw [HE2.out.2]; exact fun r hr => hfull.shape.2 r hr)
            have hC := can_iff.1 hcan
            obtain ⟨C, hCe⟩ : ∃ z, z = cnt n b := ⟨_, rfl⟩
            rw [← hCe] at hC
            have KC : Hid (∀ W, Below w.heap.size w W → n ≤ 5 → Calls Tryd.prog 35 #[.slice A n c] W fun e w' => e = .returned (.tuple #[.int .i64 (C : Int), .int .i64 0]) ∧ Below W.heap.size W w') := Lib.hid (fun W hW h5 => by
              have h1 := f35_any A n c b W (HB.out.below hW) (HT.out.below hW)
              rw [(HC.out h5).1, (HC.out h5).2, ← hCe] at h1
              exact h1)
            have hCi : (0 : Int) < (C : Int) := by omega
            have K21 := f21_any A2 n c2 (fillL b) w2 HN2.out
            rw [HF.out] at K21
            have K21 := Lib.hid K21
            generalize fillL b = L at *
            clear HE HE2 HEVB HFULL HK hcan hfull hext hlen HF hCe
            go_wp2_with fail
            refine K21.out.mono ?_
            rintro e w4 ⟨rfl, rfl⟩
            go_wp2
            go_loopw [9] (fun ri wr => ∃ r : Nat, r ≤ n ∧ ri = .int .i64 (r : Int) ∧ Below w2.heap.size w2 wr) (fun ri _ => n - (intOf ri).toNat)
            case atStart => exact ⟨0, by omega, rfl, Below.refl _ _⟩
            case round => as_aux_lemma =>
              obtain ⟨r, hr, rfl, hbr⟩ := hrel
              have BR := Lib.hid hbr
              clear hbr
              by_cases hrn : r < n
              · have r0 : (0 : Int) ≤ (r : Int) := by omega
                have rn : (r : Int) < (n : Int) := by omega
                go_wp2
                go_loopw [10] (fun ki wk => ∃ k : Nat, k ≤ n ∧ ki = .int .i64 (k : Int) ∧ Below w2.heap.size w2 wk) (fun ki _ => n - (intOf ki).toNat)
                case atStart => exact ⟨0, by omega, rfl, BR.out⟩
                case round => as_aux_lemma =>
                  obtain ⟨k, hk, rfl, hbk⟩ := hrel
                  have BK := Lib.hid hbk
                  clear hbk
                  by_cases hkn : k < n
                  · have k0 : (0 : Int) ≤ (k : Int) := by omega
                    have kn : (k : Int) < (n : Int) := by omega
                    obtain ⟨g1, o1, rfl, D1, d1, hc1, _, _, hi1⟩ := (HS.out.below BK.out).at_ hrn
                    rw [HLEN.out r hrn] at hc1 hi1
                    obtain ⟨g2, o2, rfl, hc2⟩ := hi1.at_ hkn
                    obtain ⟨g3, o3, rfl, D3, d3, hc3, _, _, hi3⟩ := (HN2.out.below BK.out).at_ hrn
                    rw [HLL.out r hrn] at hc3 hi3
                    obtain ⟨g4, o4, rfl, hc4⟩ := hi3.at_ hkn
                    have hx : (b.getD r []).getD k 0 = gAt b r k := rfl
                    have hy : (L.getD r []).getD k 0 = gAt L r k := rfl
                    have hxy := HX.out r k
                    rw [hx] at hc2
                    rw [hy] at hc4
                    clear hi1 hi3 hx hy
                    generalize gAt b r k = x at *
                    generalize gAt L r k = y at *
                    by_cases hx0 : 0 ≤ x
                    · obtain rfl : y = x := hxy hx0
                      have hq : (y != y) = false := by simp
                      clear hxy
                      go_wp2
                      go_quiet (fail)
                      go_wp2
                      go_roundw
                      case rel => exact ⟨k + 1, by omega, by go_num, by first | exact below_drewN BK.out _ | (simp only [World.drewN_drewN]; exact below_drewN BK.out _)⟩
                      case measure => simp [intOf]; omega
                    · have hx1 : x < 0 := by omega
                      have hd : decide (0 ≤ x) = false := decide_eq_false hx0
                      clear hxy
                      go_wp2
                      go_quiet (fail)
                      go_wp2
                      go_roundw
                      case rel => exact ⟨k + 1, by omega, by go_num, by first | exact below_drewN BK.out _ | (simp only [World.drewN_drewN]; exact below_drewN BK.out _)⟩
                      case measure => simp [intOf]; omega
                  · obtain rfl : k = n := by omega
                    go_wp2
                    go_roundw
                    case rel => exact ⟨r + 1, by omega, by go_num, BK.out⟩
                    case measure => simp [intOf]; omega
              · obtain rfl : r = n := by omega
                obtain ⟨n, rfl⟩ : ∃ z, z = r := ⟨_, rfl⟩
                have B3 := Lib.hid (below_step B2.out BR.out)
                rcases Nat.lt_or_ge 4 n with n4 | n4
                · have m4 : (4 : Int) < (n : Int) := by omega
                  rcases Nat.lt_or_ge 5 n with n5 | n5
                  · have m5 : (5 : Int) < (n : Int) := by omega
                    clear HS HSL
                    go_wp2_with fail
                    refine (f17_any wr (HT.out.below B3.out)).mono ?_
                    rintro e wz ⟨rfl, hbz⟩
                    have BZ := Lib.hid (below_step B3.out hbz)
                    clear hbz
                    go_wp2
                    go_ret
                    exact ⟨rfl, BZ.out⟩
                  · have m5 : ¬ (5 : Int) < (n : Int) := by omega
                    have k5 : ¬ 5 < n := by omega
                    by_cases hS0 : S = 0
                    · have q0 : ((S : Int) == 0) = true := by rw [hS0]; rfl
                      clear HS HSL
                      go_wp2_with fail
                      refine (f17_any wr (HT.out.below B3.out)).mono ?_
                      rintro e wz ⟨rfl, hbz⟩
                      have BZ := Lib.hid (below_step B3.out hbz)
                      clear hbz
                      go_wp2
                      go_ret
                      exact ⟨rfl, BZ.out⟩
                    · have q0 : ((S : Int) == 0) = false := by rw [beq_eq_false_iff_ne]; omega
                      have q1 : (S == 0) = false := by rw [beq_eq_false_iff_ne]; omega
                      have K35 := Lib.hid (KC.out wr B3.out (by omega))
                      clear HS HSL
                      go_wp2_with fail
                      refine K35.out.mono ?_
                      rintro e wy ⟨rfl, hby⟩
                      have BY := Lib.hid (below_step B3.out hby)
                      clear hby
                      go_wp2_with fail
                      refine (f17_any wy (HT.out.below BY.out)).mono ?_
                      rintro e wz ⟨rfl, hbz⟩
                      have BZ := Lib.hid (below_step BY.out hbz)
                      clear hbz
                      go_wp2
                      go_ret
                      exact ⟨rfl, BZ.out⟩
                · have m4 : ¬ (4 : Int) < (n : Int) := by omega
                  have k4 : ¬ 4 < n := by omega
                  have K35 := Lib.hid (KC.out wr B3.out (by omega))
                  clear HS HSL
                  go_wp2_with fail
                  refine K35.out.mono ?_
                  rintro e wy ⟨rfl, hby⟩
                  have BY := Lib.hid (below_step B3.out hby)
                  clear hby
                  go_wp2_with fail
                  refine (f17_any wy (HT.out.below BY.out)).mono ?_
                  rintro e wz ⟨rfl, hbz⟩
                  have BZ := Lib.hid (below_step BY.out hbz)
                  clear hbz
                  go_wp2
                  go_ret
                  exact ⟨rfl, BZ.out⟩
end Go.Proofs.YtiodednhadnekaaDoor
