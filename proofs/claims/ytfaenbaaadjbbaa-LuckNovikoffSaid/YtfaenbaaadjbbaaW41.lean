/- Walks: the specification's Best; LuckWeighs. -/
import Derived.Test.YtfaenbaaadjbbaaW40
namespace Go.Proofs.Ytfaenbaaadjbbaa
open Go.RowKit

set_option maxRecDepth 100000 in
set_option maxHeartbeats 2000000 in
/-- dibberref05.Weighing -/
theorem f32_any (A B : Option Addr) (n : Int) (k c m d : Nat) (said : List (List Int)) (came : List Int) (w : World) (hs : IntsS w A k said) (ho : Ints w B m came) :
    Calls Try.prog 32 #[.int .i64 n, .slice A k c, .slice B m d] w (SlSl w (tellW n said came) (timesW n said came) (recErr n said came)) := by
  by_cases h0 : recErr n said came = 0
  · obtain ⟨N, rfl, g1, g2, g3, g4, g5, g6⟩ := recErr_facts h0
    have hlen := hs.len
    have hmk : m = k := by have := ho.len; omega
    subst hmk
    have e1 : tellW (N : Int) said came = toldL (weighF said came N) m := by unfold tellW; rw [if_pos h0, Int.toNat_natCast, hlen]
    have e2 : timesW (N : Int) said came = wrL said came N m := by unfold timesW; rw [if_pos h0, Int.toNat_natCast, hlen]
    rw [e1, e2, h0]
    exact f32_good A B N m c d said came w hs ho h0 g1 g2 (by omega) (fun i hi => ⟨(g5 i (by omega)).1, fun j _ => bit_get (g5 i (by omega)).2 j⟩)
  · have e1 : tellW n said came = [] := by unfold tellW; rw [if_neg h0]
    have e2 : timesW n said came = [] := by unfold timesW; rw [if_neg h0]
    have k35 := Lib.hid (f35_any A B n k c m d said came w hs ho)
    have hr := recErr_in n said came
    rw [e1, e2]
    generalize recErr n said came = er at *
    have hq : (er != 0) = true := by simpa using h0
    clear hs ho e1 e2 h0
    go_enter Try.func32, Try.ntmps32
    go_wp2_with fail
    refine k35.out.mono ?_
    rintro e w1 ⟨rfl, rfl⟩
    go_wp2_with fail
    go_ret3
    exact ⟨_, _, _, _, _, _, rfl, Ints.nil _ _, Ints.nil _ _, Below.refl _ _⟩
set_option maxRecDepth 100000 in
set_option maxHeartbeats 2000000 in
/-- dibberref05.Best -/
theorem f34_any (A B : Option Addr) (n : Int) (k c m d : Nat) (said : List (List Int)) (came : List Int) (w : World) (hs : IntsS w A k said) (ho : Ints w B m came) :
    Calls Try.prog 34 #[.int .i64 n, .slice A k c, .slice B m d] w (Int3 w (bestWho n said came) (bestFew n said came) (recErr n said came)) := by
  have k32 := Lib.hid (f32_any A B n k c m d said came w hs ho)
  obtain ⟨r1, r2⟩ := recErr_in n said came
  by_cases h0 : recErr n said came = 0
  · obtain ⟨N, rfl, g1, g2, g3, g4, g5, g6⟩ := recErr_facts h0
    have e1 : bestWho (N : Int) said came = (whoTo (wrL said came N k) N : Int) := by unfold bestWho; rw [if_pos h0, Int.toNat_natCast, hs.len]
    have e2 : bestFew (N : Int) said came = ((wrL said came N k).getD (whoTo (wrL said came N k) N) 0 : Int) := by
      unfold bestFew
      rw [if_pos h0, Int.toNat_natCast, hs.len, wrL_get (who_lt _ _ (by omega))]
    have e3 : timesW (N : Int) said came = wrL said came N k := by unfold timesW; rw [if_pos h0, Int.toNat_natCast, hs.len]
    have hxl := wrL_len said came N k
    rw [e3, h0] at k32
    rw [e1, e2, h0]
    generalize wrL said came N k = xs at *
    clear hs ho h0 g3 g4 g5 g6 e1 e2 e3 r1 r2
    have HXL := Lib.hid hxl
    have HST : Hid (∀ t, whoTo xs (t + 1) = if xs.getD t 0 < xs.getD (whoTo xs t) 0 then t else whoTo xs t) := fun t => rfl
    have HLT := Lib.hid (who_lt xs)
    have H1 : Hid (whoTo xs 1 = 0) := who_one xs
    clear hxl
    go_enter Try.func34, Try.ntmps34
    go_wp2_with fail
    refine k32.out.mono ?_
    rintro e w1 ⟨A1, k1, c1, A2, k2, c2, rfl, hi1, hi2, hb⟩
    have HB := Lib.hid hb
    have hk2 : k2 = N := by have := hi2.len; rw [HXL.out] at this; omega
    subst hk2
    have HI := Lib.hid hi2
    clear hi1 hi2 hb k32
    go_wp2_with fail
    go_loopw [12, 13] (fun b i wr => ∃ t : Nat, 1 ≤ t ∧ t ≤ k2 ∧ i = .int .i64 (t : Int) ∧ b = .int .i64 (whoTo xs t : Int) ∧ ∃ q, wr = w1.drewN q) (fun _ i _ => k2 - (intOf i).toNat)
    case atStart => exact ⟨1, by omega, by omega, rfl, by rw [H1.out]; rfl, 0, rfl⟩
    case round => as_aux_lemma =>
      obtain ⟨t, ht1, ht, rfl, rfl, q, rfl⟩ := hrel
      have hwl := HLT.out t (by omega)
      by_cases hlt : t < k2
      · obtain ⟨b, off, rfl, hc⟩ := HI.out.ad (by omega)
        have hc1 := hc t hlt
        have hc2 := hc (whoTo xs t) (by omega)
        have hst := Lib.hid (HST.out t)
        generalize xs.getD (whoTo xs t) 0 = y at *
        generalize whoTo xs t = u at *
        generalize xs.getD t 0 = x at *
        have t0 : (0 : Int) ≤ (t : Int) := by omega
        have t1 : (t : Int) < (k2 : Int) := by omega
        have u0 : (0 : Int) ≤ (u : Int) := by omega
        have u1 : (u : Int) < (k2 : Int) := by omega
        clear hc
        by_cases hxy : x < y
        · rw [if_pos hxy] at hst
          have hq : decide (x < y) = true := decide_eq_true hxy
          clear hxy
          go_wp2
          go_quiet (fail)
          go_wp2
          go_roundw
          case rel => exact ⟨t + 1, by omega, by omega, by go_num, by rw [hst.out], by first | exact ⟨_, rfl⟩ | exact ⟨_, World.drewN_drewN _ _ _⟩⟩
          case measure => simp [intOf]; omega
        · rw [if_neg hxy] at hst
          have hq : decide (x < y) = false := decide_eq_false hxy
          clear hxy
          go_wp2
          go_quiet (fail)
          go_wp2
          go_roundw
          case rel => exact ⟨t + 1, by omega, by omega, by go_num, by rw [hst.out], by first | exact ⟨_, rfl⟩ | exact ⟨_, World.drewN_drewN _ _ _⟩⟩
          case measure => simp [intOf]; omega
      · obtain rfl : t = k2 := by omega
        obtain ⟨b, off, rfl, hc⟩ := HI.out.ad (by omega)
        have hc2 := hc (whoTo xs t) (by omega)
        generalize xs.getD (whoTo xs t) 0 = y at *
        generalize whoTo xs t = u at *
        have u0 : (0 : Int) ≤ (u : Int) := by omega
        have u1 : (u : Int) < (t : Int) := by omega
        clear hc
        go_wp2
        go_quiet (fail)
        go_wp2
        go_ret3
        exact ⟨rfl, below_drewN (below_drewN HB.out _) _⟩
  · have e1 : bestWho n said came = 0 := by unfold bestWho; rw [if_neg h0]
    have e2 : bestFew n said came = 0 := by unfold bestFew; rw [if_neg h0]
    rw [e1, e2]
    generalize recErr n said came = er at *
    have hq : (er != 0) = true := by simpa using h0
    clear hs ho e1 e2 h0
    go_enter Try.func34, Try.ntmps34
    go_wp2_with fail
    refine k32.out.mono ?_
    rintro e w1 ⟨A1, k1, c1, A2, k2, c2, rfl, hi1, hi2, hb⟩
    have B1 := Lib.hid hb
    clear hb hi1 hi2
    go_wp2_with fail
    go_ret3
    exact ⟨rfl, B1.out⟩
theorem f8_few (n : Int) (A B : Option Addr) (k c m d : Nat) (said : List (List Int)) (w : World) (hs : Came2 w A k said) (hm : m ≤ 9223372036854775807) (hf : fewB (said.map List.length) m = false) :
    Calls Try.prog 8 #[.int .i64 n, .slice A k c, .slice B m d] w fun e w' => e = .returned (.bool true) ∧ Below w.heap.size w w' := by
  have k15 := Lib.hid (f15_any A B c k m d _ w hs.1 hm)
  rw [hf] at k15
  clear hs hf
  go_enter Try.func8, Try.ntmps8
  go_wp2_with fail
  refine k15.out.mono ?_
  rintro e w' ⟨rfl, rfl⟩
  go_wp2_with fail
  refine (f16_any _).mono ?_
  rintro e w6 ⟨rfl, hb6⟩
  have B6 := Lib.hid hb6
  clear hb6
  go_wp2_with fail
  go_ret
  exact ⟨rfl, B6.out⟩
set_option maxRecDepth 100000 in
set_option maxHeartbeats 4000000 in
/-- dibberlaw05.LuckWeighs -/
theorem f8_any (n : Int) (A B : Option Addr) (k c m d : Nat) (said : List (List Int)) (came : List Int) (w : World) (hs : Came2 w A k said) (ho : Came w B m came) :
    Calls Try.prog 8 #[.int .i64 n, .slice A k c, .slice B m d] w fun e w' => e = .returned (.bool true) ∧ Below w.heap.size w w' := by
  cases hf : fewB (said.map List.length) m
  · exact f8_few n A B k c m d said w hs ho.len hf
  have k15 := Lib.hid (f15_any A B c k m d _ w hs.1 ho.len)
  rw [hf] at k15
  have HS := Lib.hid (hs.ints hf)
  have HO := Lib.hid (ho.2 (by have := (fewB_facts hf).2.2; omega))
  have hml := ho.len
  have hr := recErr_in n said came
  have k31 := Lib.hid (f31_any A B n k c m d said came w HS.out HO.out)
  have k32 := Lib.hid (fun W h1 h2 => f32_any A B n k c m d said came W h1 h2)
  have k33 := Lib.hid (fun W h1 h2 => f33_any A B n k c m d said came W h1 h2)
  have k34 := Lib.hid (fun W h1 h2 => f34_any A B n k c m d said came W h1 h2)
  generalize tellW n said came = X at *
  generalize timesW n said came = Y at *
  generalize bestWho n said came = bw at *
  generalize bestFew n said came = bf at *
  generalize recErr n said came = er at *
  have hq : (er != er) = false := by simp
  clear hs ho hf
  go_enter Try.func8, Try.ntmps8
  go_wp2_with fail
  refine k15.out.mono ?_
  rintro e w' ⟨rfl, rfl⟩
  go_wp2_with fail
  refine k31.out.mono ?_
  rintro e w1 ⟨A1, k1, c1, A2, k2, c2, rfl, hi1, hi2, hb⟩
  have B1 := Lib.hid hb
  have I1 := Lib.hid hi1
  have I2 := Lib.hid hi2
  clear hi1 hi2 hb
  go_wp2_with fail
  refine (k32.out _ (HS.out.below B1.out) (HO.out.below B1.out)).mono ?_
  rintro e w2 ⟨A3, k3, c3, A4, k4, c4, rfl, hi3, hi4, hb⟩
  have B2 := Lib.hid (below_step B1.out hb)
  have I1' := Lib.hid (I1.out.below hb)
  have I2' := Lib.hid (I2.out.below hb)
  have I3 := Lib.hid hi3
  have I4 := Lib.hid hi4
  have s1 := hi3.small
  have s2 := hi4.small
  have s3 := I1.out.small
  have s4 := I2.out.small
  clear hi3 hi4 hb
  have K28a : Hid (Calls Try.prog 28 #[.slice A1 k1 c1, .slice A3 k3 c3] w2 fun e w' => e = .returned (.bool true) ∧ ∃ k, w' = w2.drewN k) := by
    have h := f28_any A1 A3 k1 c1 k3 c3 X X w2 I1'.out I3.out
    rwa [decide_eq_true rfl] at h
  have K28b : Hid (∀ x, Calls Try.prog 28 #[.slice A2 k2 c2, .slice A4 k4 c4] (w2.drewN x) fun e w' => e = .returned (.bool true) ∧ ∃ k, w' = (w2.drewN x).drewN k) := fun x => by
    have h := f28_any A2 A4 k2 c2 k4 c4 Y Y (w2.drewN x) (I2'.out.drewN x) (I4.out.drewN x)
    rwa [decide_eq_true rfl] at h
  go_wp2_with fail
  refine K28a.out.mono ?_
  rintro e w3 ⟨rfl, d1, rfl⟩
  go_wp2_with fail
  refine (K28b.out d1).mono ?_
  rintro e w3 ⟨rfl, d2, rfl⟩
  have B3 : Hid (Below w.heap.size w ((w2.drewN d1).drewN d2)) := below_drewN (below_drewN B2.out d1) d2
  generalize (w2.drewN d1).drewN d2 = w3 at *
  go_wp2_with fail
  refine (k33.out _ (HS.out.below B3.out) (HO.out.below B3.out)).mono ?_
  rintro e w4 ⟨rfl, hb⟩
  have B4 := Lib.hid (below_step B3.out hb)
  clear hb
  go_wp2_with fail
  refine (k34.out _ (HS.out.below B4.out) (HO.out.below B4.out)).mono ?_
  rintro e w5 ⟨rfl, hb⟩
  have B5 := Lib.hid (below_step B4.out hb)
  clear hb
  go_wp2_with fail
  refine (f16_any _).mono ?_
  rintro e w6 ⟨rfl, hb6⟩
  have B6 := Lib.hid (below_step B5.out hb6)
  clear hb6
  go_wp2_with fail
  go_ret
  exact ⟨rfl, B6.out⟩
end Go.Proofs.Ytfaenbaaadjbbaa
