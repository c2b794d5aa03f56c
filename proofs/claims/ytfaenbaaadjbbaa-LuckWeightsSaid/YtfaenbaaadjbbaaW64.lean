/- Walk: LuckWeights. -/
import Derived.Test.YtfaenbaaadjbbaaW63
namespace Go.Proofs.Ytfaenbaaadjbbaa
open Go.RowKit

theorem T_up (i j : Nat) (h : i < j) : D10 ^ i < D10 ^ j := Nat.pow_lt_pow_right (by decide) h
theorem small_pow {a j : Nat} (ha : a ≤ 4) (hj : j ≤ 200) : a ^ j < D10 ^ 400 := by
  have h1 : a ^ j ≤ 4 ^ j := Nat.pow_le_pow_left ha j
  have h2 : 4 ^ j = 2 ^ (2 * j) := by rw [Nat.pow_mul]
  have h3 := two_le_T (2 * j) 1300 (by omega) rfl
  have h4 := T_up 100 400 (by omega)
  omega
theorem small_num {n : Nat} (hn : n ≤ 1000000) : n < D10 ^ 400 := by
  have h3 := two_le_T 20 1300 (by omega) rfl
  have h4 := T_up 100 400 (by omega)
  have e : (2 : Nat) ^ 20 = 1048576 := by decide
  omega
theorem small_prod {n b : Nat} (hn : n ≤ 20) (hb : b ≤ 200) : n * 2 ^ b < D10 ^ 400 := by
  have h1 : n * 2 ^ b ≤ 2 ^ 5 * 2 ^ b := Nat.mul_le_mul_right _ (by omega)
  rw [← Nat.pow_add] at h1
  have h3 := two_le_T (5 + b) 1300 (by omega) rfl
  have h4 := T_up 100 400 (by omega)
  omega
theorem f9_few (n : Int) (A B : Option Addr) (k c m d : Nat) (said : List (List Int)) (w : World) (hs : Came2 w A k said) (hm : m ≤ 9223372036854775807) (hf : fewB (said.map List.length) m = false) :
    Calls Try.prog 9 #[.int .i64 n, .slice A k c, .slice B m d] w fun e w' => e = .returned (.bool true) ∧ Below w.heap.size w w' := by
  have k15 := Lib.hid (f15_any A B c k m d _ w hs.1 hm)
  rw [hf] at k15
  clear hs hf
  go_enter Try.func9, Try.ntmps9
  go_wp2_with fail
  refine k15.out.mono ?_
  rintro e w' ⟨rfl, rfl⟩
  go_wp2_with fail
  refine (f16_any _).mono ?_
  rintro e w6 ⟨rfl, hb6⟩
  have B6 := Lib.hid hb6
  clear hb6
  go_wp2_with fail
  go_ret
  exact ⟨rfl, B6.out⟩
set_option maxRecDepth 100000 in
set_option maxHeartbeats 4000000 in
theorem f9_bad (n : Int) (A B : Option Addr) (k c m d : Nat) (said : List (List Int)) (came : List Int) (w : World) (hs : Came2 w A k said) (ho : Came w B m came) (hf : fewB (said.map List.length) m = true) (h0 : recErr n said came ≠ 0) :
    Calls Try.prog 9 #[.int .i64 n, .slice A k c, .slice B m d] w fun e w' => e = .returned (.bool true) ∧ Below w.heap.size w w' := by
  have k15 := Lib.hid (f15_any A B c k m d _ w hs.1 ho.len)
  rw [hf] at k15
  have HS := Lib.hid (hs.ints hf)
  have HO := Lib.hid (ho.2 (by have := (fewB_facts hf).2.2; omega))
  have hml := ho.len
  have hr := recErr_in n said came
  have k31 := Lib.hid (f31_any A B n k c m d said came w HS.out HO.out)
  have k33 := Lib.hid (fun W h1 h2 => f33_any A B n k c m d said came W h1 h2)
  have e1 : tellW n said came = [] := by unfold tellW; rw [if_neg h0]
  have e2 : timesW n said came = [] := by unfold timesW; rw [if_neg h0]
  have e3 : bestWho n said came = 0 := by unfold bestWho; rw [if_neg h0]
  have e4 : bestFew n said came = 0 := by unfold bestFew; rw [if_neg h0]
  rw [e1, e2] at k31
  rw [e3, e4] at k33
  generalize recErr n said came = er at *
  have hq : (er != 0) = true := by simpa using h0
  have hq2 : (er == er) = true := by simp
  clear hs ho hf h0 e1 e2 e3 e4
  go_enter Try.func9, Try.ntmps9
  go_wp2_with fail
  refine k15.out.mono ?_
  rintro e w' ⟨rfl, rfl⟩
  go_wp2_with fail
  refine k31.out.mono ?_
  rintro e w1 ⟨A1, k1, c1, A2, k2, c2, rfl, hi1, hi2, hb⟩
  have hk1 : k1 = 0 := by have := hi1.len; simpa using this.symm
  have hk2 : k2 = 0 := by have := hi2.len; simpa using this.symm
  subst hk1 hk2
  have B1 := Lib.hid hb
  clear hi1 hi2 hb
  go_wp2_with fail
  refine (k33.out _ (HS.out.below B1.out) (HO.out.below B1.out)).mono ?_
  rintro e w4 ⟨rfl, hb⟩
  have B4 := Lib.hid (below_step B1.out hb)
  clear hb
  go_wp2_with fail
  refine (f16_any _).mono ?_
  rintro e w6 ⟨rfl, hb6⟩
  have B6 := Lib.hid (below_step B4.out hb6)
  clear hb6
  go_wp2_with fail
  go_ret
  exact ⟨rfl, B6.out⟩
set_option maxRecDepth 100000 in
set_option maxHeartbeats 8000000 in
theorem f9_good (N : Nat) (A B : Option Addr) (m c d : Nat) (said : List (List Int)) (came : List Int) (w : World) (hs : Came2 w A m said) (ho : Came w B m came) (hf : fewB (said.map List.length) m = true) (h0 : recErr N said came = 0)
    (g1 : 1 ≤ N) (g2 : N ≤ 20) (g3 : m ≤ 200) (g5 : ∀ i, i < m → (said.getD i []).length = N ∧ (said.getD i []).all bitB = true) (g6 : came.all bitB = true) :
    Calls Try.prog 9 #[.int .i64 (N : Int), .slice A m c, .slice B m d] w fun e w' => e = .returned (.bool true) ∧ Below w.heap.size w w' := by
  have k15 := Lib.hid (f15_any A B c m m d _ w hs.1 ho.len)
  rw [hf] at k15
  have HS := Lib.hid (hs.ints hf)
  have HO := Lib.hid (ho.2 (by omega))
  have hml := ho.len
  have hlen := HS.out.len
  have k31 := Lib.hid (f31_any A B (N : Int) m c m d said came w HS.out HO.out)
  have k33 := Lib.hid (fun W h1 h2 => f33_any A B (N : Int) m c m d said came W h1 h2)
  have k35 := Lib.hid (fun W h1 h2 => f35_any A B (N : Int) m c m d said came W h1 h2)
  have e1 : tellW (N : Int) said came = toldL (weighF said came N) m := by unfold tellW; rw [if_pos h0, Int.toNat_natCast, hlen]
  have e2 : timesW (N : Int) said came = wrL said came N m := by unfold timesW; rw [if_pos h0, Int.toNat_natCast, hlen]
  have e3 : bestWho (N : Int) said came = (whoTo (wrL said came N m) N : Int) := by unfold bestWho; rw [if_pos h0, Int.toNat_natCast, hlen]
  have e4 : bestFew (N : Int) said came = (Go.Proofs.Ytfaenbaaadjbbaa.wr said came (whoTo (wrL said came N m) N) m : Int) := by unfold bestFew; rw [if_pos h0, Int.toNat_natCast, hlen]
  rw [e1, e2, h0] at k31
  rw [e3, e4, h0] at k33
  rw [h0] at k35
  have hwl : whoTo (wrL said came N m) N < N := who_lt _ _ (by omega)
  have hmin : Hid (∀ f, f < N → Go.Proofs.Ytfaenbaaadjbbaa.wr said came (whoTo (wrL said came N m) N) m ≤ Go.Proofs.Ytfaenbaaadjbbaa.wr said came f m ∧ (Go.Proofs.Ytfaenbaaadjbbaa.wr said came f m = Go.Proofs.Ytfaenbaaadjbbaa.wr said came (whoTo (wrL said came N m) N) m → ¬ f < whoTo (wrL said came N m) N)) := fun f hfN => by
    have h1 := who_min (wrL said came N m) N f hfN
    rw [wrL_get hwl, wrL_get hfN] at h1
    refine ⟨by omega, fun h2 h3 => ?_⟩
    have h4 := who_first (wrL said came N m) N f h3 (by omega)
    rw [wrL_get hwl, wrL_get hfN] at h4
    omega
  have hlaw : Hid (4 ^ missTo (toldL (weighF said came N) m) came m ≤ N * 2 ^ Go.Proofs.Ytfaenbaaadjbbaa.wr said came (whoTo (wrL said came N m) N) m * 3 ^ missTo (toldL (weighF said came N) m) came m) :=
    weights_law hwl m g3 (fun i hi => ⟨(g5 i hi).1, fun f _ => bit_get (g5 i hi).2 f⟩) (fun i _ => bit_get g6 i) (fun i hi => toldL_get hi)
  have hget : Hid (∀ f, f < N → (wrL said came N m).getD f 0 = (Go.Proofs.Ytfaenbaaadjbbaa.wr said came f m : Int)) := fun f h => wrL_get h
  have HTL := Lib.hid (toldL_len (weighF said came N) m)
  have HWL := Lib.hid (wrL_len said came N m)
  have hb200 := wr_le said came (whoTo (wrL said came N m) N) m
  have HROW : Hid (∀ i, i < m → (said.getD i []).length = N) := fun i hi => (g5 i hi).1
  have hM200 := missTo_le (toldL (weighF said came N) m) came m
  obtain ⟨F, hF⟩ : ∃ F : Nat → Nat → Nat, F = Go.Proofs.Ytfaenbaaadjbbaa.wr said came := ⟨_, rfl⟩
  have HF0 : Hid (∀ f, F f 0 = 0) := fun f => by rw [hF]; rfl
  have HF1 : Hid (∀ f i, F f (i + 1) = F f i + if (said.getD i []).getD f 0 = came.getD i 0 then 0 else 1) := fun f i => by rw [hF]; rfl
  have HFL : Hid (∀ f i, F f i ≤ i) := fun f i => by rw [hF]; exact wr_le said came f i
  rw [← hF] at hmin hlaw hget hb200 k33
  obtain ⟨M, hM⟩ : ∃ M, M = missTo (toldL (weighF said came N) m) came m := ⟨_, rfl⟩
  rw [← hM] at hlaw hM200
  have HM := Lib.hid hM
  generalize toldL (weighF said came N) m = T at *
  generalize wrL said came N m = L at *
  generalize whoTo L N = u at *
  have hbu := Lib.hid (hget.out u hwl)
  obtain ⟨b, hb⟩ : ∃ b, b = F u m := ⟨_, rfl⟩
  rw [← hb] at hmin hlaw hb200 k33 hbu
  clear hs ho hf h0 e1 e2 e3 e4 hlen g5 g6 hF hM hb
  have u0 : (0 : Int) ≤ (u : Int) := by omega
  have uN : (u : Int) < (N : Int) := by omega
  have uN2 : ¬ (N : Int) ≤ (u : Int) := by omega
  have u02 : ¬ (u : Int) < 0 := by omega
  go_enter Try.func9, Try.ntmps9
  go_wp2_with fail
  refine k15.out.mono ?_
  rintro e w' ⟨rfl, rfl⟩
  go_wp2_with fail
  refine k31.out.mono ?_
  rintro e w1 ⟨A1, k1, c1, A2, k2, c2, rfl, hi1, hi2, hb⟩
  have hk1 : k1 = m := by have := hi1.len; have := HTL.out; omega
  have hk2 : k2 = N := by have := hi2.len; have := HWL.out; omega
  subst hk1 hk2
  have B1 := Lib.hid hb
  have I1 := Lib.hid hi1
  have I2 := Lib.hid hi2
  clear hi1 hi2 hb
  go_wp2_with fail
  refine (k33.out _ (HS.out.below B1.out) (HO.out.below B1.out)).mono ?_
  rintro e w4 ⟨rfl, hb⟩
  have B4 := Lib.hid (below_step B1.out hb)
  have I1 := Lib.hid (I1.out.below hb)
  have I2 := Lib.hid (I2.out.below hb)
  have k35 := Lib.hid (k35.out w4 (HS.out.below B4.out) (HO.out.below B4.out))
  obtain ⟨b2, o2, rfl, hcu⟩ := I2.out.at_ hwl
  rw [hbu.out] at hcu
  clear hb
  go_wp2_with fail
  refine k35.out.mono ?_
  rintro e w' ⟨rfl, rfl⟩
  go_wp2_with fail
  have KALL : Hid (∀ f, f < k2 → w4.cell? ⟨b2, o2 + f, none⟩ = some (.int .i64 (F f k1 : Int))) := fun f h => by
    obtain ⟨b3, o3, e, h3⟩ := I2.out.at_ h
    injection e with e; injection e with e5 e6; subst e5 e6
    rw [hget.out f h] at h3; exact h3
  clear hcu
  go_loopw [13] (fun x wr => ∃ f : Nat, f ≤ k2 ∧ x = .int .i64 (f : Int) ∧ ∃ y, wr = w4.drewN y) (fun x _ => k2 - (intOf x).toNat)
  case atStart => exact ⟨0, by omega, rfl, 0, rfl⟩
  case round => as_aux_lemma =>
    obtain ⟨f, hf, rfl, y, rfl⟩ := hrel
    by_cases hlt : f < k2
    · have f0 : (0 : Int) ≤ (f : Int) := by omega
      have fN : (f : Int) < (k2 : Int) := by omega
      go_wp2
      go_loopw [14, 15] (fun o i wr => ∃ t : Nat, t ≤ k1 ∧ i = .int .i64 (t : Int) ∧ o = .int .i64 (F f t : Int) ∧ ∃ y, wr = w4.drewN y) (fun _ i _ => k1 - (intOf i).toNat)
      case atStart => exact ⟨0, by omega, rfl, by rw [HF0.out]; rfl, y, rfl⟩
      case round => as_aux_lemma =>
        obtain ⟨t, ht, rfl, rfl, y, rfl⟩ := hrel
        have hfl := HFL.out f t
        by_cases hlt2 : t < k1
        · obtain ⟨bs, os, rfl, Ds, es, hcs, his⟩ := (HS.out.below B4.out).at_ hlt2
          rw [HROW.out t hlt2] at hcs his
          obtain ⟨br, or_, rfl, hcr⟩ := his.at_ hlt
          obtain ⟨bc, oc, rfl, hcc⟩ := (HO.out.below B4.out).at_ hlt2
          have hst := Lib.hid (HF1.out f t)
          generalize (said.getD t []).getD f 0 = x at *
          generalize came.getD t 0 = z at *
          generalize F f t = v at *
          have t0 : (0 : Int) ≤ (t : Int) := by omega
          have tk : (t : Int) < (k1 : Int) := by omega
          clear his
          by_cases he : x = z
          · have hq : (x != z) = false := by simpa using he
            rw [if_pos he] at hst
            clear he
            go_wp2
            go_quiet (fail)
            go_wp2
            go_roundw
            case rel => exact ⟨t + 1, by omega, by go_num, by rw [hst.out]; rfl, by first | exact ⟨_, rfl⟩ | exact ⟨_, World.drewN_drewN _ _ _⟩⟩
            case measure => simp [intOf]; omega
          · have hq : (x != z) = true := by simpa using he
            rw [if_neg he] at hst
            clear he
            go_wp2
            go_quiet (fail)
            go_wp2
            go_roundw
            case rel => exact ⟨t + 1, by omega, by go_num, by rw [hst.out]; go_num, by first | exact ⟨_, rfl⟩ | exact ⟨_, World.drewN_drewN _ _ _⟩⟩
            case measure => simp [intOf]; omega
        · obtain rfl : t = k1 := by omega
          have hcf := KALL.out f hlt
          obtain ⟨h1, h2⟩ := hmin.out f hlt
          generalize F f t = v at *
          have v1 : ((v : Int) != (v : Int)) = false := by simp
          have v2 : ¬ (v : Int) < (b : Int) := by omega
          by_cases he : v = b
          · have h2 := h2 he
            subst he
            have v3 : ((v : Int) == (v : Int)) = true := by simp
            have v4 : ¬ (f : Int) < (u : Int) := by omega
            go_wp2
            go_roundw
            case rel => exact ⟨f + 1, by omega, by go_num, _, rfl⟩
            case measure => simp [intOf]; omega
          · have v3 : ((v : Int) == (b : Int)) = false := by simp; omega
            clear h2 he
            go_wp2
            go_roundw
            case rel => exact ⟨f + 1, by omega, by go_num, _, rfl⟩
            case measure => simp [intOf]; omega
    · obtain rfl : f = k2 := by omega
      have K36 := Lib.hid (f36_any A1 B k1 c1 d T came (w4.drewN y) (I1.out.drewN y) ((HO.out.below B4.out).drewN y))
      rw [← HM.out] at K36
      go_wp2_with fail
      refine K36.out.mono ?_
      rintro e w5 ⟨rfl, d1, rfl⟩
      have B5 : Hid (Below w.heap.size w ((w4.drewN y).drewN d1)) := below_drewN (below_drewN B4.out y) d1
      generalize (w4.drewN y).drewN d1 = w5 at *
      have hcmp : Hid (cmpN (4 ^ M) (f * 2 ^ b * 3 ^ M) ≤ 0) := cmpN_le.2 hlaw.out
      have p4 : Hid (∀ j, j ≤ M → 4 ^ j < D10 ^ 400) := fun j hj => small_pow (by omega) (by omega)
      have p3 : Hid (∀ j, j ≤ M → 3 ^ j < D10 ^ 400) := fun j hj => small_pow (by omega) (by omega)
      have p2 : Hid (∀ j, j ≤ b → 2 ^ j < D10 ^ 400) := fun j hj => small_pow (by omega) (by omega)
      have pn : Hid (f < D10 ^ 400) := small_num (by omega)
      have pp : Hid (f * 2 ^ b < D10 ^ 400) := small_prod g2 (by omega)
      have hMs : M ≤ 1000000 := by omega
      have hbs : b ≤ 1000000 := by omega
      clear hmin hlaw KALL HM K36
      go_wp2_with fail
      refine (f37_any 4 M w5 hMs (by omega) p4.out (small_num (by omega))).mono ?_
      rintro e w6 ⟨v6, rfl, hg6, hb6⟩
      obtain ⟨A6, ds6, c6, rfl, -⟩ := hg6.form
      have G6 := Lib.hid hg6
      have B6 := Lib.hid (below_step B5.out hb6)
      generalize ds6.length = k6 at *
      clear hg6 hb6
      have k39 := Lib.hid (f39_any f (w6.alloc (.cells #[.bool false, .slice A6 k6 c6] 54)) (by omega))
      go_wp2_with fail
      refine k39.out.mono ?_
      rintro e w7 ⟨v7, rfl, hg7, hb7⟩
      have G7 := Lib.hid hg7
      have B7 := Lib.hid hb7
      clear hg7 hb7
      go_wp2_with fail
      refine (f37_any 2 b w7 hbs (by omega) p2.out (small_num (by omega))).mono ?_
      rintro e w8 ⟨v8, rfl, hg8, hb8⟩
      have G8 := Lib.hid hg8
      have G7 := Lib.hid (G7.out.below hb8)
      have B8 := Lib.hid (below_step B7.out hb8)
      clear hg8 hb8
      go_wp2_with fail
      refine (f38_any v7 v8 _ _ _ _ w8 G7.out G8.out pn.out (p2.out b (Nat.le_refl _))).mono ?_
      rintro e w9 ⟨v9, rfl, hg9, hb9⟩
      have G9 := Lib.hid hg9
      have B9 := Lib.hid (below_step B8.out hb9)
      clear hg9 hb9
      go_wp2_with fail
      refine (f37_any 3 M w9 hMs (by omega) p3.out (small_num (by omega))).mono ?_
      rintro e w10 ⟨v10, rfl, hg10, hb10⟩
      have G10 := Lib.hid hg10
      have G9 := Lib.hid (G9.out.below hb10)
      have B10 := Lib.hid (below_step B9.out hb10)
      clear hg10 hb10
      go_wp2_with fail
      refine (f38_any v9 v10 _ _ _ _ w10 G9.out G10.out pp.out (p3.out M (Nat.le_refl _))).mono ?_
      rintro e w11 ⟨v11, rfl, hg11, hb11⟩
      obtain ⟨A11, ds11, c11, rfl, -⟩ := hg11.form
      have G11 := Lib.hid hg11
      have B11 := Lib.hid (below_step B10.out hb11)
      generalize ds11.length = k11 at *
      clear hg11 hb11
      have B12 := Lib.hid (below_step B11.out (below_alloc w11 (.cells #[.bool false, .slice A11 k11 c11] 54)))
      have hz6 : w6.heap.size < (w6.alloc (.cells #[.bool false, .slice A6 k6 c6] 54)).heap.size := by simp
      have q0 := ((bcell B12.out).1 w6.heap.size 0 hz6).trans (cell_new w6 #[.bool false, .slice A6 k6 c6] 54 0)
      have q1 := ((bcell B12.out).1 w6.heap.size 1 hz6).trans (cell_new w6 #[.bool false, .slice A6 k6 c6] 54 1)
      have r0 := cell_new w11 #[.bool false, .slice A11 k11 c11] 54 0
      have r1 := cell_new w11 #[.bool false, .slice A11 k11 c11] 54 1
      simp at q0 q1 r0 r1
      have G6 := Lib.hid ((G6.out.below (below_alloc w6 _)).below B12.out)
      have G11 := Lib.hid (G11.out.below (below_alloc w11 (.cells #[.bool false, .slice A11 k11 c11] 54)))
      have B13 := Lib.hid (below_step (below_step B6.out (below_alloc w6 _)) B12.out)
      go_wp2_with fail
      refine (f40_any _ _ _ _ _ _ _ G6.out G11.out).mono ?_
      rintro e w13 ⟨rfl, hb13⟩
      have B14 := Lib.hid (below_step B13.out hb13)
      generalize cmpN (4 ^ M) (f * 2 ^ b * 3 ^ M) = cm at *
      have hcm : cm ≤ 0 := hcmp.out
      clear hb13
      go_wp2_with fail
      refine (f16_any _).mono ?_
      rintro e w14 ⟨rfl, hb14⟩
      have B15 := Lib.hid (below_step B14.out hb14)
      clear hb14
      go_wp2_with fail
      go_ret
      exact ⟨rfl, B15.out⟩
/-- dibberlaw05.LuckWeights -/
theorem f9_any (n : Int) (A B : Option Addr) (k c m d : Nat) (said : List (List Int)) (came : List Int) (w : World) (hs : Came2 w A k said) (ho : Came w B m came) :
    Calls Try.prog 9 #[.int .i64 n, .slice A k c, .slice B m d] w fun e w' => e = .returned (.bool true) ∧ Below w.heap.size w w' := by
  cases hf : fewB (said.map List.length) m
  · exact f9_few n A B k c m d said w hs ho.len hf
  have hS := hs.ints hf
  have hO := ho.2 (by have := (fewB_facts hf).2.2; omega)
  by_cases h0 : recErr n said came = 0
  · obtain ⟨N, rfl, g1, g2, g3, g4, g5, g6⟩ := recErr_facts h0
    have hlen := hS.len
    have hmk : m = k := by have := hO.len; omega
    subst hmk
    exact f9_good N A B m c d said came w hs ho hf h0 g1 g2 (by omega) (fun i hi => g5 i (by omega)) g6
  · exact f9_bad n A B k c m d said came w hs ho hf h0
end Go.Proofs.Ytfaenbaaadjbbaa
