/- The law ShareCorners. -/
import Derived.Test.YtpehhbiodmgjeaaM3
import Derived.Test.YtpehhbiodmgjeaaW16
import Derived.Test.YtpehhbiodmgjeaaW26
import Derived.Test.YtpehhbiodmgjeaaPlain19
import Derived.BigQuiet
namespace Go.Proofs.Ytpehhbiodmgjeaa
open Go.RowKit
theorem c14_three (A B C : Option Addr) (n c m d q e : Nat) (w : World) (hn : n ≤ 9223372036854775807) (hm : m ≤ 9223372036854775807) (hq : q ≤ 9223372036854775807) :
    Calls Try.prog 14 #[.slice (some ⟨w.heap.size, 0, none⟩) 3 3] (w.alloc (.cells #[.slice A n c, .slice B m d, .slice C q e] 22)) fun e' w' => e' = .returned (.bool (decide (n ≤ 100) && decide (m ≤ 100) && decide (q ≤ 100))) ∧ w.alloc (.cells #[.slice A n c, .slice B m d, .slice C q e] 22) = w' := by
  refine (f14_any _ 3 3 _ _ (lens_lit w [(A, n, c), (B, m, d), (C, q, e)] (by simp) (by simpa using ⟨hn, hm, hq⟩)) rfl).mono ?_
  rintro e w' ⟨rfl, rfl⟩
  exact ⟨by simp [fewB, Bool.and_assoc], rfl⟩
theorem fairErr_two (n : Int) (xs l : List Int) : fairErr n xs l = 0 ∨ fairErr n xs l = 2 := by
  unfold fairErr
  split
  · exact .inl rfl
  · exact .inr rfl
theorem fairB_facts {n : Nat} {xs l : List Int} (g : Good n xs) (h : fairB n xs l = true) : fairErr n xs l = 0 ∧ shOk n l = true ∧ l.length = n ∧ ∀ i, i < n → loT (crnL n xs) i (crnL n xs).length ≤ l.getD i 0 ∧ l.getD i 0 ≤ hiT (crnL n xs) i (crnL n xs).length := by
  unfold fairB at h
  simp only [Bool.and_eq_true, Int.toNat_natCast] at h
  obtain ⟨⟨h1, h2⟩, h3⟩ := h
  have hl : l.length = n := (shOk_facts h2).1
  exact ⟨by unfold fairErr; rw [Int.toNat_natCast, h1, h2]; rfl, h2, hl, fun i hi => fair_in g hl h3 hi⟩
theorem greedy_fairB {n : Nat} {xs os : List Int} (g : Good n xs) (hok : costOk (n : Int) xs = true) (h : ordOk n os = true) : fairB n xs (greedyL n xs (os.map Int.toNat)) = true ∧ fairErr n xs (greedyL n xs (os.map Int.toNat)) = 0 := by
  have o := ord_of_ok h
  have h1 := greedy_fair g o
  have h2 := greedy_sh (ord := os.map Int.toNat) g
  unfold fairB fairErr
  rw [Int.toNat_natCast, hok, h1, h2]
  exact ⟨rfl, rfl⟩
theorem Crn.beds {w : World} {B : Nat} {A : Option Addr} {c : Nat} {T : List (List Int)} (h : Crn w B A c T) (hl : T.length ≤ 1000000) : Beds w A T.length c T := by
  obtain ⟨h1, h2, V, hV, h3⟩ := h
  refine ⟨rfl, hl, h1, h2, fun hp => ?_⟩
  obtain ⟨g, e, _, hc⟩ := h3 hp
  refine ⟨g, 0, e, fun j hj => ?_⟩
  obtain ⟨b, _, ev, ho, hs⟩ := hV.2.2 j hj
  refine ⟨some ⟨b, 0, none⟩, (T.getD j []).length, ?_, Nat.le_refl _, fun e => (by cases e), ho.ints (by omega)⟩
  rw [Nat.zero_add, (hc j hj).1, ev]
theorem cornersL_len {n : Int} {xs : List Int} : (cornersL n xs).length ≤ 46656 := by
  unfold cornersL
  by_cases h : asked n xs = 0
  · rw [if_pos h]
    obtain ⟨hok, _⟩ := asked_zero h
    obtain ⟨m, rfl, h1, h6, _⟩ := costOk_facts hok
    rw [Int.toNat_natCast]
    have e : crnL m xs = putTo (gsL m xs) (gsL m xs).length := (putTo_all _).symm
    rw [e]
    exact Nat.le_trans (putTo_len _ _) (by rw [gsL_len]; exact ord_many h6)
  · rw [if_neg h]; simp
set_option maxRecDepth 100000 in
set_option maxHeartbeats 16000000 in
/-- dibberlaw08.ShareCorners -/
theorem f13_any (n : Int) (A B C : Option Addr) (len c m d q r : Nat) (xs ys zs : List Int) (tn : Int) (w : World) (ht0 : 0 ≤ tn) (ht1 : tn ≤ 255) (hs : Came w A len xs) (ho : Came w B m ys) (hz : Came w C q zs) :
    Calls Try.prog 13 #[.int .i64 n, .slice A len c, .slice B m d, .slice C q r, .int .u8 tn] w fun e w' => e = .returned (.bool true) ∧ Below w.heap.size w w' := by
  have k14 := Lib.hid (c14_three A B C len c m d q r w hs.len ho.len hz.len)
  have b0 := Lib.hid (below_alloc w (.cells #[.slice A len c, .slice B m d, .slice C q r] 22))
  by_cases hl : len ≤ 100 ∧ m ≤ 100 ∧ q ≤ 100
  · have I0 := Lib.hid ((hs.2 hl.1).below b0.out)
    have J0 := Lib.hid ((ho.2 hl.2.1).below b0.out)
    have S0 := Lib.hid ((hz.2 hl.2.2).below b0.out)
    rw [decide_eq_true hl.1, decide_eq_true hl.2.1, decide_eq_true hl.2.2] at k14
    clear hs ho hz hl
    by_cases ha : asked n xs = 0
    · obtain ⟨n', rfl, hgood⟩ := Good.of ha
      have hok := (asked_zero ha).1
      have h1 := hgood.n1
      have h6 := hgood.n6
      have HGOOD := Lib.hid hgood
      have HA := Lib.hid ha
      have HSB : Hid (subm (n' : Int) xs = true) := Lib.hid (by rw [subm_asked, decide_eq_true ha])
      have HCL : Hid (cornersL (n' : Int) xs = crnL n' xs) := Lib.hid (by unfold cornersL; rw [if_pos ha, Int.toNat_natCast])
      have K42 := Lib.hid fun W hW => f42_any B n' m d ys W hW h6
      have HOK := Lib.hid hok
      clear hgood ha hok
      cases ho : ordOk n' ys
      · have HE : Hid (greedyErr (n' : Int) xs ys = 2) := Lib.hid (by unfold greedyErr; rw [if_pos HA.out, Int.toNat_natCast, ho]; rfl)
        rw [ho] at K42
        clear ho
        go_enter Try.func13, Try.ntmps13
        go_wp2_with fail
        refine k14.out.mono ?_
        rintro e w' ⟨rfl, rfl⟩
        go_wp2_with fail
        refine (f38_any A B n' len c m d xs ys _ I0.out J0.out).mono ?_
        rintro e w1 ⟨A1, k1, c1, rfl, hi1, hb⟩
        rw [HE.out]
        have B1 := Lib.hid (below_step b0.out hb)
        have I1 := Lib.hid (I0.out.below hb)
        have J1 := Lib.hid (J0.out.below hb)
        have S1 := Lib.hid (S0.out.below hb)
        have G1 := Lib.hid hi1
        clear hb hi1
        go_wp2_with fail
        refine (f41_any A n' len c xs _ I1.out).mono ?_
        rintro e w2 ⟨A2, c2, rfl, hcr, hb⟩
        have B2 := Lib.hid (below_step B1.out hb)
        have I2 := Lib.hid (I1.out.below hb)
        have J2 := Lib.hid (J1.out.below hb)
        have S2 := Lib.hid (S1.out.below hb)
        have G2 := Lib.hid (G1.out.below hb)
        have Y2 := Lib.hid (Crn.beds hcr (Nat.le_trans cornersL_len (by omega)))
        rw [HA.out]
        have HRL : Hid (∀ j, j < (cornersL (n' : Int) xs).length → ((cornersL (n' : Int) xs).getD j []).length = n') := Lib.hid fun j hj => by
          rw [HCL.out] at hj ⊢
          refine corner_len (xs := xs) ?_
          rw [List.getD_eq_getElem?_getD, List.getElem?_eq_getElem hj]
          exact List.getElem_mem hj
        have HPOS : Hid (0 < (cornersL (n' : Int) xs).length) := Lib.hid (by
          rw [HCL.out]
          obtain ⟨o1, _⟩ := ord_first (show 0 < n' by omega)
          exact List.length_pos_of_mem (o1.corner xs))
        clear hb hcr
        go_wp2_with fail
        refine (f21_any A n' len c xs _ I2.out).mono ?_
        rintro e w3 ⟨rfl, md, hw3⟩
        rw [HSB.out]
        have B3 : Hid (Below w.heap.size w w3) := Lib.hid (by rw [hw3]; exact below_drewN B2.out md)
        have I3 : Hid (Ints w3 A len xs) := Lib.hid (by rw [hw3]; exact I2.out.drewN md)
        have J3 : Hid (Ints w3 B m ys) := Lib.hid (by rw [hw3]; exact J2.out.drewN md)
        have ST : Hid (Ints w3 C q zs) := Lib.hid (by rw [hw3]; exact S2.out.drewN md)
        have G3 : Hid (Ints w3 A1 k1 (greedyR n' xs ys)) := Lib.hid (by rw [hw3]; exact G2.out.drewN md)
        have Y3 : Hid (Beds w3 A2 (cornersL (n' : Int) xs).length c2 (cornersL (n' : Int) xs)) := Lib.hid (by rw [hw3]; exact Y2.out.drewN md)
        clear hw3
        have HTC : Hid (cornersL (n' : Int) xs = crnL n' xs) := HCL
        clear HCL
        obtain ⟨T, hT⟩ : ∃ z, z = cornersL (n' : Int) xs := ⟨_, rfl⟩
        rw [← hT] at HRL HPOS Y3 HTC ⊢
        obtain ⟨M, hM⟩ : ∃ z, z = T.length := ⟨_, rfl⟩
        have HM := Lib.hid hM
        rw [← hM] at HRL HPOS Y3 ⊢
        have hMp := HPOS.out
        have hMs := Y3.out.small
        clear hT hM
        go_wp2_with fail
        refine (K42.out _ J3.out).mono ?_
        rintro e w4 ⟨rfl, rfl⟩
        have IT := I3
        have BT := B3
        have YT := Y3
        go_wp2
        go_loop [15] (fun ki => ∃ k : Nat, k ≤ M ∧ ki = .int .i64 (k : Int)) (fun ki => M - (intOf ki).toNat)
        case atStart => exact ⟨0, by omega, rfl⟩
        case round => as_aux_lemma =>
          obtain ⟨k, hk, rfl⟩ := hrel
          by_cases hkm : k < M
          · have k0 : (0 : Int) ≤ (k : Int) := by omega
            have km : (k : Int) < (M : Int) := by omega
            obtain ⟨g2, o2, rfl, D2, d2, s1, _, _, s2⟩ := Y3.out.at_ hkm
            rw [HRL.out k hkm] at s1
            have hnn : ((n' : Int) != (n' : Int)) = false := by simp
            clear s2
            go_wp2
            go_round
            case rel => exact ⟨k + 1, by omega, by go_num⟩
            case measure => simp [intOf]; omega
          · obtain rfl : k = M := by omega
            obtain ⟨M, rfl⟩ : ∃ M, M = k := ⟨_, rfl⟩
            have hM0 : ((M : Int) == 0) = false := by simp; omega
            have hM0i : (0 : Int) < (M : Int) := by omega
            go_wp2_with fail
            refine (f30_any A C n' len c q r xs zs _ IT.out ST.out).mono ?_
            rintro e wf ⟨rfl, hb⟩
            have BF := Lib.hid (below_step BT.out hb)
            have SF := Lib.hid (ST.out.below hb)
            have YF := Lib.hid (YT.out.below hb)
            clear hb
            cases hF : fairB n' xs zs
            · rcases fairErr_two n' xs zs with he | he
              · rw [he]
                go_wp2_with fail
                refine (f15_any _).mono ?_
                rintro e w6 ⟨rfl, hb6⟩
                have B6 := Lib.hid (below_step BF.out hb6)
                clear hb6
                go_wp2_with fail
                go_ret
                exact ⟨rfl, B6.out⟩
              · rw [he]
                go_wp2_with fail
                refine (f15_any _).mono ?_
                rintro e w6 ⟨rfl, hb6⟩
                have B6 := Lib.hid (below_step BF.out hb6)
                clear hb6
                go_wp2_with fail
                go_ret
                exact ⟨rfl, B6.out⟩
            · obtain ⟨he, hsh, hzl, hin⟩ := fairB_facts HGOOD.out hF
              rw [he]
              have HIN := Lib.hid hin
              have HZL := Lib.hid hzl
              have K43 := Lib.hid (f43_any C n' q r zs wf SF.out h6)
              rw [hsh] at K43
              clear he hsh hzl hin hF
              have HQ : Hid (q = n') := Lib.hid (by rw [← SF.out.len]; exact HZL.out)
              go_wp2_with fail
              refine K43.out.mono ?_
              rintro e wg ⟨rfl, rfl⟩
              go_wp2
              go_loopw [28] (fun ii wr => ∃ i x : Nat, i ≤ n' ∧ ii = .int .i64 (i : Int) ∧ wr = wf.drewN x) (fun ii _ => n' - (intOf ii).toNat)
              case atStart => exact ⟨0, 0, by omega, rfl, rfl⟩
              case round => as_aux_lemma =>
                obtain ⟨i, x, hi, rfl, rfl⟩ := hrel
                by_cases hin : i < n'
                · have i0 : (0 : Int) ≤ (i : Int) := by omega
                  have iN : (i : Int) < (n' : Int) := by omega
                  obtain ⟨g0, o0, rfl, D0, d0, r1, _, _, r2⟩ := YF.out.at_ (k := 0) (by omega)
                  rw [HRL.out 0 (by omega)] at r1 r2
                  rw [Nat.add_zero] at r1
                  obtain ⟨b1, o1, rfl, r3⟩ := r2.at_ hin
                  have e0 : Hid (loT T i 0 = (T.getD 0 []).getD i 0 ∧ hiT T i 0 = (T.getD 0 []).getD i 0) := ⟨rfl, rfl⟩
                  have HLS : Hid (∀ k, loT T i (k + 1) = min (loT T i k) ((T.getD k []).getD i 0) ∧ hiT T i (k + 1) = max (hiT T i k) ((T.getD k []).getD i 0)) := Lib.hid fun k => ⟨rfl, rfl⟩
                  generalize (T.getD 0 []).getD i 0 = v0 at *
                  clear r2
                  go_wp2
                  go_quiet (fail)
                  go_wp2
                  go_loop [31, 29, 30] (fun ki lo hi => ∃ k : Nat, k ≤ M ∧ ki = .int .i64 (k : Int) ∧ lo = .int .i64 (loT T i k) ∧ hi = .int .i64 (hiT T i k)) (fun ki _ _ => M - (intOf ki).toNat)
                  case atStart => exact ⟨0, by omega, rfl, by rw [e0.out.1], by rw [e0.out.2]⟩
                  case round => as_aux_lemma =>
                    obtain ⟨k, hk, rfl, rfl, rfl⟩ := hrel
                    by_cases hkm : k < M
                    · have k0 : (0 : Int) ≤ (k : Int) := by omega
                      have km : (k : Int) < (M : Int) := by omega
                      obtain ⟨g2, o2, e2, D2, d2, s1, _, _, s2⟩ := YF.out.at_ hkm
                      injection e2 with e2
                      injection e2 with e2 e3
                      subst e2 e3
                      rw [HRL.out k hkm] at s1 s2
                      obtain ⟨b2, o2, rfl, s3⟩ := s2.at_ hin
                      have HL1 := Lib.hid (HLS.out k)
                      generalize (T.getD k []).getD i 0 = v at *
                      generalize loT T i k = lo at *
                      generalize hiT T i k = hi at *
                      clear s2
                      go_wp2
                      go_round
                      case rel => exact ⟨.int .i64 (loT T i (k + 1)), .int .i64 (hiT T i (k + 1)), .int .i64 ((k + 1 : Nat) : Int), ⟨k + 1, by omega, rfl, rfl, rfl⟩, by rw [HL1.out.1], by rw [HL1.out.2], by go_num⟩
                      case measure => simp [intOf]; omega
                    · obtain rfl : k = M := by omega
                      obtain ⟨b3, o3, rfl, t3⟩ := SF.out.at_ (show i < q by rw [HQ.out]; exact hin)
                      obtain ⟨f1, f2⟩ := HIN.out i hin
                      rw [← HTC.out, ← HM.out] at f1 f2
                      have iq : (i : Int) < (q : Int) := by rw [HQ.out]; exact iN
                      generalize zs.getD i 0 = z at *
                      generalize loT T i k = lo at *
                      generalize hiT T i k = hi at *
                      have f3 : ¬ z < lo := by omega
                      have f4 : ¬ hi < z := by omega
                      clear f1 f2
                      go_wp2
                      go_roundw
                      case rel => exact ⟨i + 1, _, by omega, by go_num, rfl⟩
                      case measure => simp [intOf]; omega
                · obtain rfl : i = n' := by omega
                  go_wp2_with fail
                  refine (f15_any _).mono ?_
                  rintro e w6 ⟨rfl, hb6⟩
                  have B6 := Lib.hid (below_step (below_drewN BF.out _) hb6)
                  clear hb6
                  go_wp2_with fail
                  go_ret
                  exact ⟨rfl, B6.out⟩
      · have HE : Hid (greedyErr (n' : Int) xs ys = 0) := Lib.hid (by unfold greedyErr; rw [if_pos HA.out, Int.toNat_natCast, ho]; rfl)
        have HR : Hid (greedyR (n' : Int) xs ys = greedyL n' xs (ys.map Int.toNat)) := Lib.hid (by unfold greedyR; rw [if_pos HA.out, Int.toNat_natCast, ho]; rfl)
        have HO := Lib.hid ho
        rw [ho] at K42
        have HRK := Lib.hid (fun t => rotL_ok h1 ho t)
        have HRS := Lib.hid (fun t => rotL_same HGOOD.out ho t)
        have HFB := Lib.hid (greedy_fairB HGOOD.out HOK.out ho)
        have HMEM := Lib.hid ((ord_of_ok ho).corner xs)
        have HYO := Lib.hid (ordOk_facts ho)
        clear ho
        go_enter Try.func13, Try.ntmps13
        go_wp2_with fail
        refine k14.out.mono ?_
        rintro e w' ⟨rfl, rfl⟩
        go_wp2_with fail
        refine (f38_any A B n' len c m d xs ys _ I0.out J0.out).mono ?_
        rintro e w1 ⟨A1, k1, c1, rfl, hi1, hb⟩
        rw [HE.out]
        rw [HR.out] at hi1
        have hk1 : k1 = n' := by rw [← hi1.len]; exact greedyL_len _ _ _
        subst hk1
        obtain ⟨n', rfl⟩ : ∃ z, z = k1 := ⟨_, rfl⟩
        obtain ⟨GL, hGL⟩ : ∃ z, z = greedyL n' xs (ys.map Int.toNat) := ⟨_, rfl⟩
        rw [← hGL] at hi1 HFB HRS HMEM HR
        clear hGL
        have B1 := Lib.hid (below_step b0.out hb)
        have I1 := Lib.hid (I0.out.below hb)
        have J1 := Lib.hid (J0.out.below hb)
        have S1 := Lib.hid (S0.out.below hb)
        have G1 := Lib.hid hi1
        clear hb hi1
        go_wp2_with fail
        refine (f41_any A n' len c xs _ I1.out).mono ?_
        rintro e w2 ⟨A2, c2, rfl, hcr, hb⟩
        have B2 := Lib.hid (below_step B1.out hb)
        have I2 := Lib.hid (I1.out.below hb)
        have J2 := Lib.hid (J1.out.below hb)
        have S2 := Lib.hid (S1.out.below hb)
        have G2 := Lib.hid (G1.out.below hb)
        have Y2 := Lib.hid (Crn.beds hcr (Nat.le_trans cornersL_len (by omega)))
        rw [HA.out]
        have HRL : Hid (∀ j, j < (cornersL (n' : Int) xs).length → ((cornersL (n' : Int) xs).getD j []).length = n') := Lib.hid fun j hj => by
          rw [HCL.out] at hj ⊢
          refine corner_len (xs := xs) ?_
          rw [List.getD_eq_getElem?_getD, List.getElem?_eq_getElem hj]
          exact List.getElem_mem hj
        have HPOS : Hid (0 < (cornersL (n' : Int) xs).length) := Lib.hid (by
          rw [HCL.out]
          obtain ⟨o1, _⟩ := ord_first (show 0 < n' by omega)
          exact List.length_pos_of_mem (o1.corner xs))
        clear hb hcr
        go_wp2_with fail
        refine (f21_any A n' len c xs _ I2.out).mono ?_
        rintro e w3 ⟨rfl, md, hw3⟩
        rw [HSB.out]
        have B3 : Hid (Below w.heap.size w w3) := Lib.hid (by rw [hw3]; exact below_drewN B2.out md)
        have I3 : Hid (Ints w3 A len xs) := Lib.hid (by rw [hw3]; exact I2.out.drewN md)
        have J3 : Hid (Ints w3 B m ys) := Lib.hid (by rw [hw3]; exact J2.out.drewN md)
        have ST : Hid (Ints w3 C q zs) := Lib.hid (by rw [hw3]; exact S2.out.drewN md)
        have G3 : Hid (Ints w3 A1 n' GL) := Lib.hid (by rw [hw3]; exact G2.out.drewN md)
        have Y3 : Hid (Beds w3 A2 (cornersL (n' : Int) xs).length c2 (cornersL (n' : Int) xs)) := Lib.hid (by rw [hw3]; exact Y2.out.drewN md)
        clear hw3
        have HTC : Hid (cornersL (n' : Int) xs = crnL n' xs) := HCL
        clear HCL
        obtain ⟨T, hT⟩ : ∃ z, z = cornersL (n' : Int) xs := ⟨_, rfl⟩
        rw [← hT] at HRL HPOS Y3 HTC ⊢
        obtain ⟨M, hM⟩ : ∃ z, z = T.length := ⟨_, rfl⟩
        have HM := Lib.hid hM
        rw [← hM] at HRL HPOS Y3 ⊢
        have hMp := HPOS.out
        have hMs := Y3.out.small
        clear hT hM
        go_wp2_with fail
        refine (K42.out _ J3.out).mono ?_
        rintro e w4 ⟨rfl, rfl⟩
        have IT := I3
        have BT := B3
        have YT := Y3
        go_wp2
        go_loop [15] (fun ki => ∃ k : Nat, k ≤ M ∧ ki = .int .i64 (k : Int)) (fun ki => M - (intOf ki).toNat)
        case atStart => exact ⟨0, by omega, rfl⟩
        case round => as_aux_lemma =>
          obtain ⟨k, hk, rfl⟩ := hrel
          by_cases hkm : k < M
          · have k0 : (0 : Int) ≤ (k : Int) := by omega
            have km : (k : Int) < (M : Int) := by omega
            obtain ⟨g2, o2, rfl, D2, d2, s1, _, _, s2⟩ := Y3.out.at_ hkm
            rw [HRL.out k hkm] at s1
            have hnn : ((n' : Int) != (n' : Int)) = false := by simp
            clear s2
            go_wp2
            go_round
            case rel => exact ⟨k + 1, by omega, by go_num⟩
            case measure => simp [intOf]; omega
          · obtain rfl : k = M := by omega
            obtain ⟨M, rfl⟩ : ∃ M, M = k := ⟨_, rfl⟩
            have hM0 : ((M : Int) == 0) = false := by simp; omega
            have hM0i : (0 : Int) < (M : Int) := by omega
            go_wp2_with fail
            refine Calls.mono (f30_any A A1 n' len c n' c1 xs GL _ IT.out G3.out) ?_
            rintro e w5 ⟨rfl, hb⟩
            rw [HFB.out.1, HFB.out.2]
            have B5 := Lib.hid (below_step BT.out hb)
            have I5 := Lib.hid (IT.out.below hb)
            have J5 := Lib.hid (J3.out.below hb)
            have S5 := Lib.hid (ST.out.below hb)
            have G5 := Lib.hid (G3.out.below hb)
            have Y5 := Lib.hid (YT.out.below hb)
            have HIN1 : Hid (∀ k, k < M → inL T GL (k + 1) = (inL T GL k || decide (T.getD k [] = GL))) := Lib.hid fun k hk => inL_succ (by rw [← HM.out]; exact hk)
            have HIN2 : Hid (inL T GL M = true) := Lib.hid (by rw [HM.out, HTC.out]; exact inL_all HMEM.out)
            have HIN0 : Hid (inL T GL 0 = false) := Lib.hid rfl
            clear hb
            go_wp2
            go_loopw [20, 19] (fun ki oi wr => ∃ k x : Nat, k ≤ M ∧ ki = .int .i64 (k : Int) ∧ oi = .bool (inL T GL k) ∧ wr = w5.drewN x) (fun ki _ _ => M - (intOf ki).toNat)
            case atStart => exact ⟨0, 0, by omega, rfl, by rw [HIN0.out], rfl⟩
            case round => as_aux_lemma =>
              obtain ⟨k, x, hk, rfl, rfl, rfl⟩ := hrel
              by_cases hkm : k < M
              · have k0 : (0 : Int) ≤ (k : Int) := by omega
                have km : (k : Int) < (M : Int) := by omega
                obtain ⟨g2, o2, rfl, D2, d2, s1, _, _, s2⟩ := Y5.out.at_ hkm
                rw [HRL.out k hkm] at s1 s2
                have K20 := Lib.hid (f20_any D2 A1 n' d2 n' c1 (T.getD k []) GL (w5.drewN x) (s2.drewN x) (G5.out.drewN x))
                have HI1 := Lib.hid (HIN1.out k hkm)
                generalize decide (T.getD k [] = GL) = bb at *
                clear s2
                cases hv : inL T GL k
                · rw [hv, Bool.false_or] at HI1
                  have HI2 := Lib.hid HI1.out
                  clear hv HI1
                  go_wp2_with fail
                  refine K20.out.mono ?_
                  rintro e w9 ⟨rfl, kk, rfl⟩
                  go_wp2
                  go_roundw
                  case rel => exact ⟨k + 1, _, by omega, by go_num, by rw [HI2.out], by first | rfl | exact World.drewN_drewN _ _ _⟩
                  case measure => simp [intOf]; omega
                · rw [hv, Bool.true_or] at HI1
                  have HI2 := Lib.hid HI1.out
                  clear hv HI1
                  go_wp2
                  go_roundw
                  case rel => exact ⟨k + 1, _, by omega, by go_num, by rw [HI2.out], rfl⟩
                  case measure => simp [intOf]; omega
              · obtain rfl : k = M := by omega
                obtain ⟨M, rfl⟩ : ∃ M, M = k := ⟨_, rfl⟩
                rw [HIN2.out]
                obtain ⟨wa, hwa⟩ : ∃ z, z = w5.drewN x := ⟨_, rfl⟩
                have Ba : Hid (Below w.heap.size w wa) := Lib.hid (by rw [hwa]; exact below_drewN B5.out x)
                have Ia : Hid (Ints wa A len xs) := Lib.hid (by rw [hwa]; exact I5.out.drewN x)
                have Ja : Hid (Ints wa B m ys) := Lib.hid (by rw [hwa]; exact J5.out.drewN x)
                have Sa : Hid (Ints wa C q zs) := Lib.hid (by rw [hwa]; exact S5.out.drewN x)
                have Ga : Hid (Ints wa A1 n' GL) := Lib.hid (by rw [hwa]; exact G5.out.drewN x)
                have Ya : Hid (Beds wa A2 M c2 T) := Lib.hid (by rw [hwa]; exact Y5.out.drewN x)
                rw [← hwa]
                clear hwa
                obtain ⟨t, rfl⟩ := nat_of tn ht0
                obtain ⟨N1, hN1⟩ : ∃ N1, n' = N1 + 1 := ⟨n' - 1, by omega⟩
                have HN1 := Lib.hid hN1
                have HOM : Hid (m = n') := Lib.hid (by rw [← Ja.out.len]; exact HYO.out.1)
                have hNi : (n' : Int) - 1 = (N1 : Int) := by omega
                have hNw : IntKind.i64.wrap (N1 : Int) = (N1 : Int) := IntWalk.i64_in _ (by omega)
                have hN6 : N1 ≤ 5 := by omega
                have hwt : IntKind.i64.wrap (t : Int) = (t : Int) := IntWalk.i64_in _ (by omega)
                have HOS : Hid (∀ i, othL ys n' t (i + 1) = othL ys n' t i ++ [ys.getD ((i + t) % N1) 0]) := Lib.hid fun i => by rw [othL_succ, hN1]; rfl
                have HOL : Hid (∀ i, (othL ys n' t i).length = i) := Lib.hid (othL_len ys n' t)
                have HRT : Hid (rotL ys n' t = othL ys n' t N1 ++ [ys.getD N1 0]) := Lib.hid (by unfold rotL; rw [hN1]; rfl)
                have HO0 : Hid (othL ys n' t 0 = []) := Lib.hid rfl
                clear hN1
                go_wp2
                go_loopw [22, 21] (fun ii vi wr => ∃ i : Nat, i ≤ N1 ∧ ii = .int .i64 (i : Int) ∧ Hid (Row wr wa.heap.size vi (othL ys n' t i)) ∧ Hid (Below wa.heap.size wa wr)) (fun ii _ _ => N1 - (intOf ii).toNat)
                case atStart => exact ⟨0, by omega, rfl, by rw [HO0.out]; exact Row.nil _ _, Below.refl _ _⟩
                case round => as_aux_lemma =>
                  obtain ⟨i, hi, rfl, HR, HB⟩ := hrel
                  by_cases him : i < N1
                  · have i0 : (0 : Int) ≤ (i : Int) := by omega
                    have im : (i : Int) < (N1 : Int) := by omega
                    have hN0 : ¬ (N1 : Int) = 0 := by omega
                    have hN0n : ¬ N1 = 0 := by omega
                    obtain ⟨z, hz⟩ : ∃ z, z = (i + t) % N1 := ⟨_, rfl⟩
                    have hzl : z < N1 := by rw [hz]; exact Nat.mod_lt _ (by omega)
                    have hmod : ((i : Int) + (t : Int)).tmod (N1 : Int) = (z : Int) := by
                      rw [hz, show (i : Int) + (t : Int) = ((i + t : Nat) : Int) by omega, Int.tmod_eq_emod_of_nonneg (by omega)]
                      omega
                    have hws : IntKind.i64.wrap ((i : Int) + (t : Int)) = (i : Int) + (t : Int) := IntWalk.i64_in _ (by omega)
                    have hwz : IntKind.i64.wrap (z : Int) = (z : Int) := IntWalk.i64_in _ (by omega)
                    obtain ⟨b3, o3, rfl, s3⟩ := (Ja.out.below HB.out).at_ (k := z) (by rw [HOM.out]; have := HN1.out; omega)
                    have zm : (z : Int) < (m : Int) := by rw [HOM.out]; have := HN1.out; omega
                    have z0 : (0 : Int) ≤ (z : Int) := by omega
                    have HOS1 := Lib.hid (HOS.out i)
                    rw [← hz] at HOS1
                    clear hz
                    generalize ys.getD z 0 = y at *
                    have hsz := HB.out.size
                    go_wp2_with (at_builtin; refine wpList_push rfl (.tmp 151) (.tmp 162) rfl wa.heap.size _ (othL ys n' t i) rfl (HR.out.alloc _) wr.heap.size 1 y rfl ?hc ?hl ?hb ?hr)
                    case hc => exact (cell_new wr #[.int .i64 y] 3 0).trans rfl
                    case hl => rw [HOL.out]; omega
                    case hb => exact le_alloc hsz _
                    case hr =>
                      intro v2 w2 hr2 hg2
                      rw [← HOS1.out] at hr2
                      have HR2 := Lib.hid hr2
                      have HB2 : Hid (Below wa.heap.size wa w2) := Lib.hid (below_grown (HB.out.alloc hsz _) hg2 (le_alloc hsz _) (HR.out.alloc _) (Nat.le_refl _))
                      clear hr2 hg2
                      go_wp2
                      go_roundw
                      case rel => exact ⟨i + 1, by omega, by go_num, HR2, HB2⟩
                      case measure => simp [intOf]; omega
                  · obtain rfl : i = N1 := by omega
                    obtain ⟨N1, rfl⟩ : ∃ z, z = i := ⟨_, rfl⟩
                    have hsz := HB.out.size
                    obtain ⟨b3, o3, rfl, s3⟩ := (Ja.out.below HB.out).at_ (k := N1) (by rw [HOM.out]; have := HN1.out; omega)
                    have hok1 := HYO.out.2 N1 (by have := HN1.out; omega)
                    obtain ⟨la, hla⟩ := nat_of _ hok1.1
                    have hlan : (la : Int) < (n' : Int) := by rw [← hla]; exact hok1.2.1
                    have HS1 := Lib.hid (HRS.out t)
                    rw [show n' - 1 = N1 by have := HN1.out; omega, hla, Int.toNat_natCast] at HS1
                    rw [hla] at s3 HRT
                    have hlan2 : la < n' := by omega
                    have la0 : (0 : Int) ≤ (la : Int) := by omega
                    have hwl : IntKind.i64.wrap (la : Int) = (la : Int) := IntWalk.i64_in _ (by omega)
                    have hNm : (N1 : Int) < (m : Int) := by rw [HOM.out]; have := HN1.out; omega
                    have hN0 : (0 : Int) ≤ (N1 : Int) := by omega
                    clear hok1 hla
                    go_wp2_with (at_builtin; refine wpList_push rfl (.tmp 172) (.tmp 174) rfl wa.heap.size _ (othL ys n' t N1) rfl (HR.out.alloc _) wr.heap.size 1 (la : Int) rfl ?hc2 ?hl2 ?hb2 ?hr2)
                    case hc2 => exact (cell_new wr #[.int .i64 (la : Int)] 3 0).trans rfl
                    case hl2 => rw [HOL.out]; omega
                    case hb2 => exact le_alloc hsz _
                    case hr2 =>
                      intro v2 w2 hr2 hg2
                      rw [← HRT.out] at hr2
                      have hrl : (rotL ys n' t).length = n' := rotL_len h1 t
                      obtain ⟨A7, c7, e7, _, _, q3, _⟩ := Row.form3 hr2 (by rw [hrl]; omega)
                      rw [hrl] at e7 q3
                      have hb2 : Below wa.heap.size wa w2 := below_grown (HB.out.alloc hsz _) hg2 (le_alloc hsz _) (HR.out.alloc _) (Nat.le_refl _)
                      have B2b := Lib.hid (below_step Ba.out hb2)
                      have I2b := Lib.hid (Ia.out.below hb2)
                      have S2b := Lib.hid (Sa.out.below hb2)
                      have G2b := Lib.hid (Ga.out.below hb2)
                      have Y2b := Lib.hid (Ya.out.below hb2)
                      have K38 := Lib.hid (f38_any A A7 n' len c n' c7 xs (rotL ys n' t) w2 I2b.out q3)
                      have HE7 : Hid (greedyErr (n' : Int) xs (rotL ys n' t) = 0) := Lib.hid (by unfold greedyErr; rw [if_pos HA.out, Int.toNat_natCast, HRK.out t]; rfl)
                      have HR7 : Hid (greedyR (n' : Int) xs (rotL ys n' t) = greedyL n' xs ((rotL ys n' t).map Int.toNat)) := Lib.hid (by unfold greedyR; rw [if_pos HA.out, Int.toNat_natCast, HRK.out t]; rfl)
                      rw [HE7.out, HR7.out] at K38
                      have HXL : Hid ((greedyL n' xs ((rotL ys n' t).map Int.toNat)).length = n') := Lib.hid (greedyL_len _ _ _)
                      generalize greedyL n' xs ((rotL ys n' t).map Int.toNat) = X at *
                      subst e7
                      clear hr2 hg2 hb2 q3 hrl
                      go_wp2_with fail
                      refine K38.out.mono ?_
                      rintro e w7 ⟨A8, k8, c8, rfl, hi8, hb8⟩
                      have hk8 : k8 = n' := by rw [← hi8.len, HXL.out]
                      subst hk8
                      obtain ⟨n', rfl⟩ : ∃ z, z = k8 := ⟨_, rfl⟩
                      obtain ⟨b8, o8, rfl, s8⟩ := hi8.at_ hlan2
                      obtain ⟨b9, o9, rfl, s9⟩ := (G2b.out.below hb8).at_ hlan2
                      rw [HS1.out] at s8
                      generalize GL.getD la 0 = vv at *
                      have hvv : (vv != vv) = false := by simp
                      have hnn : ((n' : Int) != (n' : Int)) = false := by simp
                      have B7 := Lib.hid (below_step B2b.out hb8)
                      have I7 := Lib.hid (I2b.out.below hb8)
                      have S7 := Lib.hid (S2b.out.below hb8)
                      have Y7 := Lib.hid (Y2b.out.below hb8)
                      clear hi8 hb8
                      go_wp2
                      go_quiet (fail)
                      obtain ⟨wT, hwT⟩ : ∃ z, z = w7.drewN nq := ⟨_, rfl⟩
                      clear BT IT ST YT
                      have BT : Hid (Below w.heap.size w wT) := Lib.hid (by rw [hwT]; exact below_drewN B7.out nq)
                      have IT : Hid (Ints wT A len xs) := Lib.hid (by rw [hwT]; exact I7.out.drewN nq)
                      have ST : Hid (Ints wT C q zs) := Lib.hid (by rw [hwT]; exact S7.out.drewN nq)
                      have YT : Hid (Beds wT A2 M c2 T) := Lib.hid (by rw [hwT]; exact Y7.out.drewN nq)
                      rw [← hwT]
                      clear hwT
                      go_wp2_with fail
                      refine (f30_any A C n' len c q r xs zs _ IT.out ST.out).mono ?_
                      rintro e wf ⟨rfl, hb⟩
                      have BF := Lib.hid (below_step BT.out hb)
                      have SF := Lib.hid (ST.out.below hb)
                      have YF := Lib.hid (YT.out.below hb)
                      clear hb
                      cases hF : fairB n' xs zs
                      · rcases fairErr_two n' xs zs with he | he
                        · rw [he]
                          go_wp2_with fail
                          refine (f15_any _).mono ?_
                          rintro e w6 ⟨rfl, hb6⟩
                          have B6 := Lib.hid (below_step BF.out hb6)
                          clear hb6
                          go_wp2_with fail
                          go_ret
                          exact ⟨rfl, B6.out⟩
                        · rw [he]
                          go_wp2_with fail
                          refine (f15_any _).mono ?_
                          rintro e w6 ⟨rfl, hb6⟩
                          have B6 := Lib.hid (below_step BF.out hb6)
                          clear hb6
                          go_wp2_with fail
                          go_ret
                          exact ⟨rfl, B6.out⟩
                      · obtain ⟨he, hsh, hzl, hin⟩ := fairB_facts HGOOD.out hF
                        rw [he]
                        have HIN := Lib.hid hin
                        have HZL := Lib.hid hzl
                        have K43 := Lib.hid (f43_any C n' q r zs wf SF.out h6)
                        rw [hsh] at K43
                        clear he hsh hzl hin hF
                        have HQ : Hid (q = n') := Lib.hid (by rw [← SF.out.len]; exact HZL.out)
                        go_wp2_with fail
                        refine K43.out.mono ?_
                        rintro e wg ⟨rfl, rfl⟩
                        go_wp2
                        go_loopw [28] (fun ii wr => ∃ i x : Nat, i ≤ n' ∧ ii = .int .i64 (i : Int) ∧ wr = wf.drewN x) (fun ii _ => n' - (intOf ii).toNat)
                        case atStart => exact ⟨0, 0, by omega, rfl, rfl⟩
                        case round => as_aux_lemma =>
                          obtain ⟨i, x, hi, rfl, rfl⟩ := hrel
                          by_cases hin : i < n'
                          · have i0 : (0 : Int) ≤ (i : Int) := by omega
                            have iN : (i : Int) < (n' : Int) := by omega
                            obtain ⟨g0, o0, rfl, D0, d0, r1, _, _, r2⟩ := YF.out.at_ (k := 0) (by omega)
                            rw [HRL.out 0 (by omega)] at r1 r2
                            rw [Nat.add_zero] at r1
                            obtain ⟨b1, o1, rfl, r3⟩ := r2.at_ hin
                            have e0 : Hid (loT T i 0 = (T.getD 0 []).getD i 0 ∧ hiT T i 0 = (T.getD 0 []).getD i 0) := ⟨rfl, rfl⟩
                            have HLS : Hid (∀ k, loT T i (k + 1) = min (loT T i k) ((T.getD k []).getD i 0) ∧ hiT T i (k + 1) = max (hiT T i k) ((T.getD k []).getD i 0)) := Lib.hid fun k => ⟨rfl, rfl⟩
                            generalize (T.getD 0 []).getD i 0 = v0 at *
                            clear r2
                            go_wp2
                            go_quiet (fail)
                            go_wp2
                            go_loop [31, 29, 30] (fun ki lo hi => ∃ k : Nat, k ≤ M ∧ ki = .int .i64 (k : Int) ∧ lo = .int .i64 (loT T i k) ∧ hi = .int .i64 (hiT T i k)) (fun ki _ _ => M - (intOf ki).toNat)
                            case atStart => exact ⟨0, by omega, rfl, by rw [e0.out.1], by rw [e0.out.2]⟩
                            case round => as_aux_lemma =>
                              obtain ⟨k, hk, rfl, rfl, rfl⟩ := hrel
                              by_cases hkm : k < M
                              · have k0 : (0 : Int) ≤ (k : Int) := by omega
                                have km : (k : Int) < (M : Int) := by omega
                                obtain ⟨g2, o2, e2, D2, d2, s1, _, _, s2⟩ := YF.out.at_ hkm
                                injection e2 with e2
                                injection e2 with e2 e3
                                subst e2 e3
                                rw [HRL.out k hkm] at s1 s2
                                obtain ⟨b2, o2, rfl, s3⟩ := s2.at_ hin
                                have HL1 := Lib.hid (HLS.out k)
                                generalize (T.getD k []).getD i 0 = v at *
                                generalize loT T i k = lo at *
                                generalize hiT T i k = hi at *
                                clear s2
                                go_wp2
                                go_round
                                case rel => exact ⟨.int .i64 (loT T i (k + 1)), .int .i64 (hiT T i (k + 1)), .int .i64 ((k + 1 : Nat) : Int), ⟨k + 1, by omega, rfl, rfl, rfl⟩, by rw [HL1.out.1], by rw [HL1.out.2], by go_num⟩
                                case measure => simp [intOf]; omega
                              · obtain rfl : k = M := by omega
                                obtain ⟨b3, o3, rfl, t3⟩ := SF.out.at_ (show i < q by rw [HQ.out]; exact hin)
                                obtain ⟨f1, f2⟩ := HIN.out i hin
                                rw [← HTC.out, ← HM.out] at f1 f2
                                have iq : (i : Int) < (q : Int) := by rw [HQ.out]; exact iN
                                generalize zs.getD i 0 = z at *
                                generalize loT T i k = lo at *
                                generalize hiT T i k = hi at *
                                have f3 : ¬ z < lo := by omega
                                have f4 : ¬ hi < z := by omega
                                clear f1 f2
                                go_wp2
                                go_roundw
                                case rel => exact ⟨i + 1, _, by omega, by go_num, rfl⟩
                                case measure => simp [intOf]; omega
                          · obtain rfl : i = n' := by omega
                            go_wp2_with fail
                            refine (f15_any _).mono ?_
                            rintro e w6 ⟨rfl, hb6⟩
                            have B6 := Lib.hid (below_step (below_drewN BF.out _) hb6)
                            clear hb6
                            go_wp2_with fail
                            go_ret
                            exact ⟨rfl, B6.out⟩
    · have HSB : Hid (subm n xs = false) := Lib.hid (by rw [subm_asked, decide_eq_false ha])
      have HE : Hid (greedyErr n xs ys = asked n xs) := Lib.hid (by unfold greedyErr; rw [if_neg ha])
      have HR : Hid (greedyR n xs ys = []) := Lib.hid (by unfold greedyR; rw [if_neg ha])
      have HC : Hid (cornersL n xs = []) := Lib.hid (by unfold cornersL; rw [if_neg ha])
      have hq : (asked n xs != 0) = true := by simpa using ha
      have hqq : (asked n xs == asked n xs) = true := by simp
      clear ha
      go_enter Try.func13, Try.ntmps13
      go_wp2_with fail
      refine k14.out.mono ?_
      rintro e w' ⟨rfl, rfl⟩
      go_wp2_with fail
      refine (f38_any A B n len c m d xs ys _ I0.out J0.out).mono ?_
      rintro e w1 ⟨A1, k1, c1, rfl, hi1, hb⟩
      rw [HR.out] at hi1
      have hk1 := hi1.len
      rw [HE.out]
      have B1 := Lib.hid (below_step b0.out hb)
      have I1 := Lib.hid (I0.out.below hb)
      clear hb hi1
      go_wp2_with fail
      refine (f41_any A n len c xs _ I1.out).mono ?_
      rintro e w2 ⟨A2, c2, rfl, _, hb⟩
      have B2 := Lib.hid (below_step B1.out hb)
      have I2 := Lib.hid (I1.out.below hb)
      rw [HC.out]
      clear hb
      go_wp2_with fail
      refine (f21_any A n len c xs _ I2.out).mono ?_
      rintro e w3 ⟨rfl, md, rfl⟩
      rw [HSB.out]
      obtain rfl : k1 = 0 := hk1.symm
      generalize asked n xs = E at *
      go_wp2_with fail
      refine (f15_any _).mono ?_
      rintro e w6 ⟨rfl, hb6⟩
      have B6 := Lib.hid (below_step (below_drewN B2.out md) hb6)
      clear hb6
      go_wp2_with fail
      go_ret
      exact ⟨rfl, B6.out⟩
  · have hf : (decide (len ≤ 100) && decide (m ≤ 100) && decide (q ≤ 100)) = false := by
      rw [Bool.eq_false_iff]
      simpa [and_assoc] using hl
    rw [hf] at k14
    clear hs ho hz hl hf
    go_enter Try.func13, Try.ntmps13
    go_wp2_with fail
    refine k14.out.mono ?_
    rintro e w' ⟨rfl, rfl⟩
    go_wp2_with fail
    refine (f15_any _).mono ?_
    rintro e w6 ⟨rfl, hb6⟩
    have B6 := Lib.hid (below_step b0.out hb6)
    clear hb6
    go_wp2_with fail
    go_ret
    exact ⟨rfl, B6.out⟩
end Go.Proofs.Ytpehhbiodmgjeaa
