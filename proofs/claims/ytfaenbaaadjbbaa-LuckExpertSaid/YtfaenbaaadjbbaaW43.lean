/- Walk: LuckExpert. -/
import Derived.Test.YtfaenbaaadjbbaaW42
namespace Go.Proofs.Ytfaenbaaadjbbaa
open Go.RowKit

theorem f10_few (n : Int) (A B : Option Addr) (k c m d : Nat) (said : List (List Int)) (w : World) (hs : Came2 w A k said) (hm : m ≤ 9223372036854775807) (hf : fewB (said.map List.length) m = false) :
    Calls Try.prog 10 #[.int .i64 n, .slice A k c, .slice B m d] w fun e w' => e = .returned (.bool true) ∧ Below w.heap.size w w' := by
  have k15 := Lib.hid (f15_any A B c k m d _ w hs.1 hm)
  rw [hf] at k15
  clear hs hf
  go_enter Try.func10, Try.ntmps10
  go_wp2_with fail
  refine k15.out.mono ?_
  rintro e w' ⟨rfl, rfl⟩
  go_wp2_with fail
  refine (f16_any _).mono ?_
  rintro e w6 ⟨rfl, hb6⟩
  have B6 := Lib.hid hb6
  clear hb6
  go_wp2_with fail
  go_ret
  exact ⟨rfl, B6.out⟩
set_option maxRecDepth 100000 in
set_option maxHeartbeats 4000000 in
/-- dibberlaw05.LuckExpert -/
theorem f10_any (n : Int) (A B : Option Addr) (k c m d : Nat) (said : List (List Int)) (came : List Int) (w : World) (hs : Came2 w A k said) (ho : Came w B m came) :
    Calls Try.prog 10 #[.int .i64 n, .slice A k c, .slice B m d] w fun e w' => e = .returned (.bool true) ∧ Below w.heap.size w w' := by
  cases hf : fewB (said.map List.length) m
  · exact f10_few n A B k c m d said w hs ho.len hf
  have k15 := Lib.hid (f15_any A B c k m d _ w hs.1 ho.len)
  rw [hf] at k15
  have hS := hs.ints hf
  have hO := ho.2 (by have := (fewB_facts hf).2.2; omega)
  have HS := Lib.hid hS
  have HO := Lib.hid hO
  have hml := ho.len
  have hr := recErr_in n said came
  have k41 := Lib.hid (f41_any A B n k c m d said came w HS.out HO.out)
  have k33 := Lib.hid (fun W h1 h2 => f33_any A B n k c m d said came W h1 h2)
  by_cases h0 : recErr n said came = 0
  · obtain ⟨N, rfl, g1, g2, g3, g4, g5, g6⟩ := recErr_facts h0
    have hmk : m = k := by have := hO.len; have := hS.len; omega
    subst hmk
    have hlen := hS.len
    have e1 : tellH (N : Int) said came = toldL (halfF said came N) m := by unfold tellH; rw [if_pos h0, Int.toNat_natCast, hlen]
    have hwl : whoTo (wrL said came N m) N < N := who_lt _ _ (by omega)
    have e2 : bestFew (N : Int) said came = (wr said came (whoTo (wrL said came N m) N) m : Int) := by unfold bestFew; rw [if_pos h0, Int.toNat_natCast, hlen]
    have hwr := wr_le said came (whoTo (wrL said came N m) N) m
    have hlaw : wr said came (whoTo (wrL said came N m) N) m = 0 → 2 ^ missTo (toldL (halfF said came N) m) came m ≤ N := fun h =>
      half_law hwl h (fun i f hi _ => bit_get (g5 i (by omega)).2 f) (fun i _ => bit_get g6 i) (fun i hi => toldL_get hi)
    have htl := toldL_len (halfF said came N) m
    rw [e1, h0] at k41
    rw [e2, h0] at k33
    have HTL := Lib.hid htl
    have hm200 : m ≤ 200 := by omega
    generalize toldL (halfF said came N) m = T at *
    generalize wr said came (whoTo (wrL said came N m) N) m = b at *
    clear hs ho hf hS hO h0 g3 g4 g5 g6 e1 e2 hwl htl hr hlen
    by_cases hb : b = 0
    · have hlaw := hlaw hb
      subst hb
      obtain ⟨M, hM⟩ : ∃ M, M = missTo T came m := ⟨_, rfl⟩
      rw [← hM] at hlaw
      have hM5 : M ≤ 5 := by
        rcases Nat.lt_or_ge 5 M with h | h
        · have : 2 ^ 6 ≤ 2 ^ M := Nat.pow_le_pow_right (by omega) (by omega)
          omega
        · exact h
      obtain ⟨P, hP, hshl⟩ := shl_one M (by omega)
      rw [← hP] at hlaw
      have HM := Lib.hid hM
      have hM0 : (0 : Int) ≤ (M : Int) := by omega
      have hM5i : (M : Int) ≤ 5 := by omega
      have hPN : (P : Int) ≤ (N : Int) := by omega
      clear hM hP
      go_enter Try.func10, Try.ntmps10
      go_wp2_with fail
      refine k15.out.mono ?_
      rintro e w' ⟨rfl, rfl⟩
      go_wp2_with fail
      refine k41.out.mono ?_
      rintro e w1 ⟨A1, k1, c1, rfl, hi1, hb⟩
      have hk1 : k1 = m := by have := hi1.len; have := HTL.out; omega
      subst hk1
      have B1 := Lib.hid hb
      have I1 := Lib.hid hi1
      clear hi1 hb
      go_wp2_with fail
      refine (k33.out _ (HS.out.below B1.out) (HO.out.below B1.out)).mono ?_
      rintro e w4 ⟨rfl, hb⟩
      have B4 := Lib.hid (below_step B1.out hb)
      have K36 := Lib.hid (fun x => f36_any A1 B k1 c1 d T came (w4.drewN x) ((I1.out.below hb).drewN x) ((HO.out.below B4.out).drewN x))
      rw [← HM.out] at K36
      clear hb
      go_wp2_with fail
      refine (K36.out 0).mono ?_
      rintro e w5 ⟨rfl, d1, rfl⟩
      go_wp2_with fail
      refine (K36.out d1).mono ?_
      rintro e w5 ⟨rfl, d2, rfl⟩
      have B5 : Hid (Below w.heap.size w ((w4.drewN d1).drewN d2)) := below_drewN (below_drewN B4.out d1) d2
      generalize (w4.drewN d1).drewN d2 = w5 at *
      go_wp2_with fail
      refine (f16_any _).mono ?_
      rintro e w6 ⟨rfl, hb6⟩
      have B6 := Lib.hid (below_step B5.out hb6)
      clear hb6
      go_wp2_with fail
      go_ret
      exact ⟨rfl, B6.out⟩
    · have hb1 : 0 < b := by omega
      have hb2 : (0 : Int) < (b : Int) := by omega
      clear hlaw hb
      go_enter Try.func10, Try.ntmps10
      go_wp2_with fail
      refine k15.out.mono ?_
      rintro e w' ⟨rfl, rfl⟩
      go_wp2_with fail
      refine k41.out.mono ?_
      rintro e w1 ⟨A1, k1, c1, rfl, hi1, hb⟩
      have hk1 : k1 = m := by have := hi1.len; have := HTL.out; omega
      subst hk1
      have B1 := Lib.hid hb
      clear hi1 hb
      go_wp2_with fail
      refine (k33.out _ (HS.out.below B1.out) (HO.out.below B1.out)).mono ?_
      rintro e w4 ⟨rfl, hb⟩
      have B4 := Lib.hid (below_step B1.out hb)
      clear hb
      go_wp2_with fail
      refine (f16_any _).mono ?_
      rintro e w6 ⟨rfl, hb6⟩
      have B6 := Lib.hid (below_step B4.out hb6)
      clear hb6
      go_wp2_with fail
      go_ret
      exact ⟨rfl, B6.out⟩
  · have e1 : tellH n said came = [] := by unfold tellH; rw [if_neg h0]
    have e2 : bestFew n said came = 0 := by unfold bestFew; rw [if_neg h0]
    rw [e1] at k41
    rw [e2] at k33
    generalize recErr n said came = er at *
    have hq : (er != 0) = true := by simpa using h0
    have hq2 : (er == er) = true := by simp
    clear hs ho hf hS hO h0 e1 e2
    go_enter Try.func10, Try.ntmps10
    go_wp2_with fail
    refine k15.out.mono ?_
    rintro e w' ⟨rfl, rfl⟩
    go_wp2_with fail
    refine k41.out.mono ?_
    rintro e w1 ⟨A1, k1, c1, rfl, hi1, hb⟩
    have hk1 : k1 = 0 := by have := hi1.len; simpa using this.symm
    subst hk1
    have B1 := Lib.hid hb
    clear hi1 hb
    go_wp2_with fail
    refine (k33.out _ (HS.out.below B1.out) (HO.out.below B1.out)).mono ?_
    rintro e w4 ⟨rfl, hb⟩
    have B4 := Lib.hid (below_step B1.out hb)
    clear hb
    go_wp2_with fail
    refine (f16_any _).mono ?_
    rintro e w6 ⟨rfl, hb6⟩
    have B6 := Lib.hid (below_step B4.out hb6)
    clear hb6
    go_wp2_with fail
    go_ret
    exact ⟨rfl, B6.out⟩
end Go.Proofs.Ytfaenbaaadjbbaa
