/- Walk: the specification's Perceptron. -/
import Derived.Test.YtfaenbaaadjbbaaW49
namespace Go.Proofs.Ytfaenbaaadjbbaa
open Go.RowKit

set_option maxRecDepth 100000 in
set_option maxHeartbeats 4000000 in
/-- dibberref05.Perceptron: errors -/
theorem f44_no (A B : Option Addr) (k c m d : Nat) (R : Int) (pts : List (List Int)) (signs : List Int) (w : World) (hs : IntsS w A k pts) (ho : Ints w B m signs) (h : ¬ (ptErr pts signs = 0 ∧ 1 ≤ R ∧ R ≤ 1000)) :
    Calls Try.prog 44 #[.slice A k c, .slice B m d, .int .i64 R] w (SlIE w (pcW pts signs R) (pcM pts signs R) (pcE pts signs R)) := by
  have k45 := Lib.hid (f45_any A B k c m d pts signs w hs ho)
  by_cases h0 : ptErr pts signs = 0
  · obtain ⟨e1, e2, e3⟩ := pc_range (R := R) h0 (fun h1 => h ⟨h0, h1⟩)
    rw [e1, e2, e3]
    rw [h0] at k45
    clear hs ho e1 e2 e3
    by_cases h1 : R < 1
    · clear h
      go_enter Try.func44, Try.ntmps44
      go_wp2_with fail
      refine k45.out.mono ?_
      rintro e w1 ⟨rfl, rfl⟩
      go_wp2
      go_ret3
      exact ⟨_, _, _, rfl, Ints.nil _ _, Below.refl _ _⟩
    · have h2 : 1000 < R := by omega
      clear h
      go_enter Try.func44, Try.ntmps44
      go_wp2_with fail
      refine k45.out.mono ?_
      rintro e w1 ⟨rfl, rfl⟩
      go_wp2
      go_ret3
      exact ⟨_, _, _, rfl, Ints.nil _ _, Below.refl _ _⟩
  · obtain ⟨e1, e2, e3⟩ := pc_pts (R := R) _ h0 rfl
    rw [e1, e2, e3]
    generalize ptErr pts signs = er at *
    have hq : (er != 0) = true := by simpa using h0
    clear hs ho e1 e2 e3 h0 h
    go_enter Try.func44, Try.ntmps44
    go_wp2_with fail
    refine k45.out.mono ?_
    rintro e w1 ⟨rfl, rfl⟩
    go_wp2
    go_ret3
    exact ⟨_, _, _, rfl, Ints.nil _ _, Below.refl _ _⟩
set_option maxRecDepth 100000 in
set_option maxHeartbeats 16000000 in
theorem f44_main (b0 o0 n c : Nat) (B : Option Addr) (d : Nat) (N : Nat) (pts : List (List Int)) (signs : List Int) (w : World) (hs : IntsS w (some ⟨b0, o0, none⟩) n pts) (ho : Ints w B n signs) (hpe : ptErr pts signs = 0) (hN1 : 1 ≤ N) (hN2 : N ≤ 1000) :
    Calls Try.prog 44 #[.slice (some ⟨b0, o0, none⟩) n c, .slice B n d, .int .i64 (N : Int)] w (SlIE w (pcW pts signs N) (pcM pts signs N) (pcE pts signs N)) := by
  have k45 := Lib.hid (f45_any _ B n c n d pts signs w hs ho)
  rw [hpe] at k45
  obtain ⟨f1, f2, f3, f4, f5, f6, f7⟩ := pts_facts hpe
  have hkl := hs.len
  obtain ⟨b0', o0', hA0, D0, e0, hc0, hi0⟩ := hs.at_ (show 0 < n by omega)
  injection hA0 with hA0
  injection hA0 with hA1 hA2
  subst hA1 hA2
  rw [Nat.add_zero] at hc0
  have hk0 : (0 : Int) < (n : Int) := by omega
  have hk00 : 0 < n := by omega
  have hk50 : n ≤ 50 := by omega
  have HS := Lib.hid hs
  have HO := Lib.hid ho
  obtain ⟨L, hL⟩ : ∃ L, L = (pts.getD 0 []).length := ⟨_, rfl⟩
  rw [← hL] at f3 f4 f6 hc0
  have HLL := Lib.hid hL
  obtain ⟨X, hX⟩ : ∃ X, X = pcW pts signs N := ⟨_, rfl⟩
  obtain ⟨Y, hY⟩ : ∃ Y, Y = pcM pts signs N := ⟨_, rfl⟩
  obtain ⟨E, hE⟩ : ∃ E, E = pcE pts signs N := ⟨_, rfl⟩
  rw [← hX, ← hY, ← hE]
  have HX := Lib.hid hX
  have HY := Lib.hid hY
  have HE := Lib.hid hE
  have HROW : Hid (∀ i, i < n → (pts.getD i []).length = L ∧ ∀ j, -100 ≤ (pts.getD i []).getD j 0 ∧ (pts.getD i []).getD j 0 ≤ 100) := fun i hi => f6 i (by omega)
  have HSG : Hid (∀ i, i < n → signs.getD i 0 = 1 ∨ signs.getD i 0 = -1) := fun i hi => f7 i (by omega)
  have P1 : Hid ((∀ j, j < N → calm pts signs L j = false) → pcE pts signs N = 10 ∧ pcW pts signs N = [] ∧ pcM pts signs N = 0) := fun h => pc_miss hpe ⟨hN1, hN2⟩ (by rw [← HLL.out]; exact h)
  have P2 : Hid (∀ r, r < N → calm pts signs L r = true → (∀ j, j < r → calm pts signs L j = false) → pcE pts signs N = 0 ∧ pcW pts signs N = (runs pts signs L (r + 1)).1 ∧ pcM pts signs N = (runs pts signs L (r + 1)).2) := fun r h1 h2 h3 => by
    rw [HLL.out] at h2 h3 ⊢
    exact pc_hit hpe ⟨hN1, hN2⟩ h1 h2 h3
  have HRU : ∀ r, Held L (r * n) (runs pts signs L r) := fun r => by
    have := Held.runs (pts := pts) (signs := signs) (d := L) r f7 (fun k hk => (f6 k hk).2)
    rwa [hkl] at this
  have HRS : Hid (∀ r, runs pts signs L (r + 1) = rnd pts signs L (runs pts signs L r) n) := fun r => by rw [← hkl]; rfl
  have HR0 : Hid (runs pts signs L 0 = (List.replicate L 0, 0)) := rfl
  have HRB : Hid (∀ r i, r < N → i ≤ n → Held L 50000 (rnd pts signs L (runs pts signs L r) i)) := fun r i hr hi => ((HRU r).rnd i (fun j hj => f7 j (by omega)) (fun k hk => (f6 k (by omega)).2)).mono (by
    have : r * n ≤ 999 * 50 := Nat.mul_le_mul (by omega) hk50
    omega)
  have hmk := make_ints L (by omega) w
  obtain ⟨w2, hw2⟩ : ∃ w2, w2 = w.alloc (.cells ((List.replicate L (0 : Int)).map (Value.int .i64)).toArray 3) := ⟨_, rfl⟩
  rw [← hw2] at hmk
  have O2 : Hid (Own w2 w.heap.size (List.replicate L 0)) := by rw [hw2]; exact Own.made w L
  have B2 : Hid (Below w.heap.size w w2) := by rw [hw2]; exact below_alloc _ _
  clear hs ho hkl hi0 hX hY hE hL hpe f1 f2 f5 f6 f7 hw2 HRU
  go_enter Try.func44, Try.ntmps44
  go_wp2_with fail
  refine k45.out.mono ?_
  rintro e w1 ⟨rfl, rfl⟩
  go_wp2_with fail
  go_loopw [11, 12, 13, 14, 15, 16, 17] (fun M i _ _ _ _ _ wr => ∃ r : Nat, r ≤ N ∧ i = .int .i64 (r : Int) ∧ M = .int .i64 ((runs pts signs L r).2 : Int) ∧ Own wr w.heap.size (runs pts signs L r).1 ∧ Below w.heap.size w wr ∧ Hid (∀ j, j < r → calm pts signs L j = false)) (fun _ i _ _ _ _ _ _ => N - (intOf i).toNat)
  case atStart => exact ⟨0, by omega, rfl, by rw [HR0.out]; rfl, by rw [HR0.out]; exact O2.out, B2.out, fun j hj => absurd hj (by omega)⟩
  case round => as_aux_lemma =>
    obtain ⟨r, hr, rfl, rfl, hown, hbel, hcalm⟩ := hrel
    by_cases hlr : r < N
    · have HHELD := Lib.hid (fun i hi => HRB.out r i hlr hi)
      have HNEXT := Lib.hid (HRS.out r)
      have HCALM : Hid (calm pts signs L r = ((runs pts signs L (r + 1)).2 == (runs pts signs L r).2)) := rfl
      have HP2 := Lib.hid (P2.out r hlr)
      obtain ⟨s0, hs0⟩ : ∃ s0, s0 = runs pts signs L r := ⟨_, rfl⟩
      rw [← hs0] at HHELD HNEXT HCALM hown ⊢
      have hm0 : s0.2 ≤ 50000 := (HHELD.out 0 (by omega)).2.1
      have HOW := Lib.hid hown
      have HBE := Lib.hid hbel
      clear hown hbel hs0 HRB HRS P1 P2
      go_wp2_with fail
      go_loopw [11, 14, 15, 16, 17] (fun M i _ _ _ wr => ∃ q : Nat, q ≤ n ∧ i = .int .i64 (q : Int) ∧ M = .int .i64 ((rnd pts signs L s0 q).2 : Int) ∧ Own wr w.heap.size (rnd pts signs L s0 q).1 ∧ Below w.heap.size w wr) (fun _ i _ _ _ _ => n - (intOf i).toNat)
      case atStart => exact ⟨0, by omega, rfl, rfl, HOW.out, HBE.out⟩
      case round => as_aux_lemma =>
        obtain ⟨q, hq, rfl, rfl, hown, hbel⟩ := hrel
        by_cases hlq : q < n
        · obtain ⟨b1, o1, hA1, D, e, hc, hi⟩ := HS.out.at_ hlq
          injection hA1 with hA1
          injection hA1 with hA2 hA3
          subst hA2 hA3
          obtain ⟨b2, o2, rfl, hcs⟩ := HO.out.at_ hlq
          obtain ⟨r1, r2⟩ := HROW.out q hlq
          have hsg := HSG.out q hlq
          rw [r1] at hc hi
          have HC := Lib.hid hc
          have HCS := Lib.hid hcs
          have HI := Lib.hid hi
          have hst : Hid (rnd pts signs L s0 (q + 1) = ptStep (pts.getD q []) (signs.getD q 0) L (rnd pts signs L s0 q)) := rfl
          obtain ⟨h1, h2, h3⟩ := HHELD.out q (by omega)
          generalize rnd pts signs L s0 q = s at *
          generalize pts.getD q [] = p at *
          generalize signs.getD q 0 = g at *
          have hw : ∀ j, -5000000 ≤ s.1.getD j 0 ∧ s.1.getD j 0 ≤ 5000000 := fun j => by have := h3 j; omega
          have HDOT : Hid (∀ t, t ≤ L → -3000000000 ≤ dotTo p s.1 t ∧ dotTo p s.1 t ≤ 3000000000) := fun t ht => by
            have := dot_small (B := 5000000) r2 hw t
            omega
          have HDS : Hid (∀ t, dotTo p s.1 (t + 1) = dotTo p s.1 t + p.getD t 0 * s.1.getD t 0) := fun t => rfl
          have HD0 : Hid (dotTo p s.1 0 = 0) := rfl
          have HOW := Lib.hid hown
          have HBE := Lib.hid hbel
          have HW := Lib.hid hw
          have HPB := Lib.hid r2
          have HLW := Lib.hid h1
          have hq0 : (0 : Int) ≤ (q : Int) := by omega
          have hqn : (q : Int) < (n : Int) := by omega
          obtain ⟨wq, rfl⟩ : ∃ wq : World, wq = wr := ⟨_, rfl⟩
          clear hown hbel hc hcs hi r1 r2 h1 h3 hw HHELD HNEXT HCALM HP2
          go_wp2_with fail
          go_loopw [15, 16] (fun a i wr => ∃ t : Nat, t ≤ L ∧ i = .int .i64 (t : Int) ∧ a = .int .i64 (dotTo p s.1 t) ∧ ∃ x, wr = wq.drewN x) (fun _ i _ => L - (intOf i).toNat)
          case atStart => exact ⟨0, by omega, rfl, by rw [HD0.out], 0, rfl⟩
          case round => as_aux_lemma =>
            obtain ⟨t, ht, rfl, rfl, x0, rfl⟩ := hrel
            obtain ⟨v1, v2⟩ := HDOT.out t ht
            by_cases hlt2 : t < L
            · obtain ⟨b3, o3, rfl, hcp⟩ := HI.out.at_ hlt2
              have hc1 := (HBE.out.cell (lt_of_cell HC.out)).trans HC.out
              have hcp := (HBE.out.cell (lt_of_cell hcp)).trans hcp
              have hco := HOW.out.cell t (by rw [HLW.out]; exact hlt2)
              have hstt := Lib.hid (HDS.out t)
              have px := prod_small (HPB.out t) (HW.out t)
              generalize dotTo p s.1 t = a at *
              generalize p.getD t 0 = x at *
              generalize s.1.getD t 0 = y at *
              obtain ⟨px1, px2⟩ := px
              have w1 : IntKind.i64.wrap (x * y) = x * y := IntWalk.i64_in _ (by omega)
              have w2' : IntKind.i64.wrap (a + x * y) = a + x * y := IntWalk.i64_in _ (by omega)
              have ht0 : (0 : Int) ≤ (t : Int) := by omega
              have htL : (t : Int) < (L : Int) := by omega
              go_wp2
              go_quiet (fail)
              go_wp2
              go_roundw
              case rel => exact ⟨t + 1, by omega, by go_num, by rw [hstt.out], by first | exact ⟨_, rfl⟩ | exact ⟨_, World.drewN_drewN _ _ _⟩⟩
              case measure => simp [intOf]; omega
            · obtain rfl : t = L := by omega
              have hgs := sgn_mul hsg ⟨v1, v2⟩
              have hstep : Hid ((0 < g * dotTo p s.1 t → rnd pts signs t s0 (q + 1) = s) ∧ (¬ 0 < g * dotTo p s.1 t → rnd pts signs t s0 (q + 1) = (ptW p g t s.1, s.2 + 1))) := by
                rw [hst.out]
                unfold ptStep
                exact ⟨fun h => by rw [if_pos h], fun h => by rw [if_neg h]⟩
              obtain ⟨z, hz⟩ : ∃ z, z = g * dotTo p s.1 t := ⟨_, rfl⟩
              rw [← hz] at hgs hstep
              generalize dotTo p s.1 t = S at *
              have wz : IntKind.i64.wrap (g * S) = z := by rw [← hz]; exact IntWalk.i64_in _ (by omega)
              have HOW := Lib.hid (HOW.out.drewN x0)
              have HBE := Lib.hid (below_drewN HBE.out x0)
              generalize wq.drewN x0 = wv at *
              have hcs1 := (HBE.out.cell (lt_of_cell HCS.out)).trans HCS.out
              clear hz hst HDOT HDS HD0
              by_cases hzp : 0 < z
              · have hnx := Lib.hid (hstep.out.1 hzp)
                clear hstep
                go_wp2
                go_roundw
                case rel => exact ⟨q + 1, by omega, by go_num, by rw [hnx.out], by rw [hnx.out]; exact HOW.out, HBE.out⟩
                case measure => simp [intOf]; omega
              · have hnx := Lib.hid (hstep.out.2 hzp)
                clear hstep
                go_wp2_with fail
                go_loopw [17] (fun i wr => ∃ (u : Nat) (W : List Int), u ≤ t ∧ i = .int .i64 (u : Int) ∧ Own wr w.heap.size W ∧ Hid (W.length = t ∧ ∀ j, j < t → W.getD j 0 = newTo s.1 p g u j) ∧ Below w.heap.size w wr) (fun i _ => t - (intOf i).toNat)
                case atStart => exact ⟨0, s.1, by omega, rfl, HOW.out, ⟨HLW.out, fun j _ => (newTo_zero _ _ _ _).symm⟩, HBE.out⟩
                case round => as_aux_lemma =>
                  obtain ⟨u, W, hu, rfl, hown, hW, hbel⟩ := hrel
                  have HOW2 := Lib.hid hown
                  have HBE2 := Lib.hid hbel
                  by_cases hlu : u < t
                  · obtain ⟨b3, o3, rfl, hcp⟩ := HI.out.at_ hlu
                    have hc3 := (hbel.cell (lt_of_cell HC.out)).trans HC.out
                    have hcp := (hbel.cell (lt_of_cell hcp)).trans hcp
                    have hcs2 := (hbel.cell (lt_of_cell HCS.out)).trans HCS.out
                    have hco := hown.cell u (by rw [hW.out.1]; exact hlu)
                    have hfz := hown.frozen u
                    rw [hW.out.2 u hlu, newTo_at] at hco
                    have hnow := Lib.hid (newTo_now s.1 p g u)
                    have px := sgn_in hsg (HPB.out u)
                    have py := HW.out u
                    generalize p.getD u 0 = x at *
                    generalize s.1.getD u 0 = y at *
                    obtain ⟨v, hv⟩ : ∃ v, v = g * x := ⟨_, rfl⟩
                    rw [← hv] at px hnow
                    obtain ⟨px1, px2⟩ := px
                    obtain ⟨py1, py2⟩ := py
                    have w1 : IntKind.i64.wrap (g * x) = v := by rw [← hv]; exact IntWalk.i64_in _ (by omega)
                    have w2' : IntKind.i64.wrap (y + v) = y + v := IntWalk.i64_in _ (by omega)
                    have hu0 : (0 : Int) ≤ (u : Int) := by omega
                    have hut : (u : Int) < (t : Int) := by omega
                    clear hown hbel hv hcs1
                    go_wp2_with fail
                    go_still_tail 18, (by kernel_rfl)
                    change wpList _ _ _ _ _ wr.drew
                    go_wp2_with fail
                    go_roundw
                    case rel => exact ⟨u + 1, W.set u (y + v), by omega, by go_num, (HOW2.out.set_ u _).drew, ⟨by rw [List.length_set]; exact hW.out.1, fun j hj => by
                      by_cases hju : j = u
                      · subst hju; rw [getS_set _ _ _ (by rw [hW.out.1]; exact hlu), hnow.out]
                      · rw [getN_set _ _ _ _ (by rw [hW.out.1]; exact hlu) hju, newTo_other _ _ _ _ _ hju]; exact hW.out.2 j hj⟩, (HBE2.out.setCell (Nat.le_refl _) _).drew⟩
                    case measure => simp [intOf]; omega
                  · obtain rfl : u = t := by omega
                    have hWe : W = ptW p g u s.1 := newTo_all hW.out.1 hW.out.2
                    rw [hWe] at HOW2
                    clear hown hbel
                    go_wp2
                    go_roundw
                    case rel => exact ⟨q + 1, by omega, by go_num, by rw [hnx.out]; go_num, by rw [hnx.out]; exact HOW2.out, HBE2.out⟩
                    case measure => simp [intOf]; omega
        · obtain rfl : q = n := by omega
          have hm1 : (rnd pts signs L s0 q).2 ≤ 50000 := (HHELD.out q (by omega)).2.1
          rw [← HNEXT.out] at hm1 hown ⊢
          have HOW := Lib.hid hown
          have HBE := Lib.hid hbel
          have HLN := Lib.hid ((HHELD.out q (by omega)).1)
          rw [← HNEXT.out] at HLN
          clear hown hbel HHELD HNEXT
          generalize hs1 : runs pts signs L (r + 1) = s1 at *
          have HS1 := Lib.hid hs1
          clear hs1
          obtain ⟨M1, hM1⟩ : ∃ M1, M1 = s1.2 := ⟨_, rfl⟩
          obtain ⟨M0, hM0⟩ : ∃ M0, M0 = s0.2 := ⟨_, rfl⟩
          rw [← hM1, ← hM0] at HCALM
          have HM1 := Lib.hid hM1
          have HM0 := Lib.hid hM0
          rw [← hM1] at hm1 HP2 ⊢
          rw [← hM0] at hm0
          by_cases hMM : M1 = M0
          · have hcal : calm pts signs L r = true := by rw [HCALM.out, hMM]; simp
            have hfin := Lib.hid (HP2.out hcal hcalm.out)
            have hqq : ((M1 : Int) == (M0 : Int)) = true := by simp; omega
            have HI1 := Lib.hid (HOW.out.ints' HLN.out (by omega))
            clear hMM hcal HCALM HP2
            go_wp2
            go_ret3
            rw [HX.out, HY.out, HE.out, hfin.out.1, hfin.out.2.1, hfin.out.2.2]
            exact ⟨_, _, _, rfl, HI1.out, HBE.out⟩
          · have hcal : Hid (calm pts signs L r = false) := by
              rw [HCALM.out]
              show _ = false
              simpa using hMM
            have hqq : ((M1 : Int) == (M0 : Int)) = false := by simp; omega
            clear hMM HCALM HP2
            go_wp2
            go_roundw
            case rel => exact ⟨r + 1, by omega, by go_num, by rw [HS1.out, HM1.out], by rw [HS1.out]; exact HOW.out, HBE.out, fun j hj => by
              rcases Nat.lt_or_ge j r with h | h
              · exact hcalm.out j h
              · obtain rfl : j = r := by omega
                exact hcal.out⟩
            case measure => simp [intOf]; omega
    · obtain rfl : r = N := by omega
      have hfin := Lib.hid (P1.out hcalm.out)
      have HBE := Lib.hid hbel
      clear hown hbel
      go_wp2
      go_ret3
      rw [HX.out, HY.out, HE.out, hfin.out.1, hfin.out.2.1, hfin.out.2.2]
      exact ⟨_, _, _, rfl, Ints.nil _ _, HBE.out⟩
end Go.Proofs.Ytfaenbaaadjbbaa
