/- Walk: ShareHedges. -/
import Derived.Test.YtpehhbiodmgjeaaW23
import Derived.Test.YtpehhbiodmgjeaaW20
import Derived.Test.YtpehhbiodmgjeaaPlain10
namespace Go.Proofs.Ytpehhbiodmgjeaa
open Go.RowKit

theorem check_good {n : Int} {xs : List Int} (h1 : costOk n xs = true) (h2 : Sub xs) : checkErr n xs = 10 := by
  unfold checkErr; rw [h1, sub_brkT h2]; rfl
theorem subm_facts {n : Int} {xs : List Int} (h : subm n xs = true) : costOk n xs = true ∧ Sub xs := by
  rw [subm_asked] at h
  obtain ⟨h1, h2⟩ := asked_zero (of_decide_eq_true h)
  exact ⟨h1, brkT_sub h2⟩
theorem addL_get (a b : List Int) (k : Nat) (hk : k < a.length) : (addL a b).getD k 0 = a.getD k 0 + b.getD k 0 := by
  simp [addL, addTo, List.getD_eq_getElem?_getD, hk]
theorem sum_cases {n : Int} {a b : List Int} (h1 : costOk n a = true) (h2 : costOk n b = true) : (sumErr n a b = 4 ∧ sumR n a b = []) ∨ (sumErr n a b = 0 ∧ sumR n a b = addL a b ∧ (addL a b).any outC = false) := by
  unfold sumR sumErr
  rw [h1, h2]
  cases h : (addL a b).any outC
  · exact .inr ⟨rfl, rfl, rfl⟩
  · exact .inl ⟨rfl, rfl⟩
theorem add_good {n : Int} {a b : List Int} (h1 : costOk n a = true) (h2 : costOk n b = true) (h3 : (addL a b).any outC = false) (s1 : Sub a) (s2 : Sub b) : checkErr n (addL a b) = 10 := by
  obtain ⟨m, rfl, m1, m6, hl, _, h0⟩ := costOk_facts h1
  obtain ⟨m', hm', _, _, hl2, _, h02⟩ := costOk_facts h2
  obtain rfl : m = m' := by omega
  have hln : (addL a b).length = a.length := addTo_len a b _
  have hp : 0 < a.length := by rw [hl]; exact Nat.pow_pos (by omega)
  refine check_good ?_ ?_
  · unfold costOk
    rw [hln, h3, addL_get a b 0 hp, h0, h02, Int.toNat_natCast, hl]
    simp only [Bool.and_eq_true, decide_eq_true_eq]
    refine ⟨⟨⟨⟨by omega, by omega⟩, by simp⟩, by simp⟩, by omega⟩
  · intro x y hx hy
    rw [hln] at hx hy
    have ho : x ||| y < a.length := by rw [hl] at *; exact Nat.or_lt_two_pow hx hy
    have ha : x &&& y < a.length := Nat.lt_of_le_of_lt Nat.and_le_left hx
    rw [addL_get a b _ ho, addL_get a b _ ha, addL_get a b _ hx, addL_get a b _ hy]
    have := s1 x y hx hy
    have := s2 x y (by rw [hl2, ← hl]; exact hx) (by rw [hl2, ← hl]; exact hy)
    omega

set_option maxRecDepth 100000 in
set_option maxHeartbeats 8000000 in
/-- dibberlaw08.ShareHedges -/
theorem f9_any (n : Int) (A B : Option Addr) (len c m d : Nat) (xss : List (List Int)) (ys : List Int) (w : World) (hs : Came2 w A len xss) (ho : Came w B m ys) :
    Calls Try.prog 9 #[.int .i64 n, .slice A len c, .slice B m d] w fun e w' => e = .returned (.bool true) ∧ Below w.heap.size w w' := by
  obtain ⟨h1, h2, h3, h4⟩ := hs
  by_cases h40 : 40 < len
  · clear h1 h3 h4 ho
    go_enter Try.func9, Try.ntmps9
    go_wp2_with fail
    refine (f15_any _).mono ?_
    rintro e w6 ⟨rfl, hb6⟩
    have B6 := Lib.hid hb6
    clear hb6
    go_wp2_with fail
    go_ret
    exact ⟨rfl, B6.out⟩
  have k14 := Lib.hid (f14_any A c len _ w (h3 (by omega)) (by rw [List.length_map, h1]))
  cases hf : fewB (xss.map List.length)
  · rw [hf] at k14
    clear h1 h3 h4 hf ho
    go_enter Try.func9, Try.ntmps9
    go_wp2_with fail
    refine k14.out.mono ?_
    rintro e w' ⟨rfl, rfl⟩
    go_wp2_with fail
    refine (f15_any _).mono ?_
    rintro e w6 ⟨rfl, hb6⟩
    have B6 := Lib.hid hb6
    clear hb6
    go_wp2_with fail
    go_ret
    exact ⟨rfl, B6.out⟩
  rw [hf] at k14
  have k14b := Lib.hid (c14_1 B m d w ho.len)
  have b0 := Lib.hid (below_alloc w (.cells #[.slice B m d] 22))
  by_cases hm : m ≤ 100
  · have I0 := Lib.hid ((h4 (by omega) (fewB_get hf)).below b0.out)
    have J0 := Lib.hid ((ho.2 hm).below b0.out)
    rw [decide_eq_true hm] at k14b
    have k22 : Hid (∀ W, IntsS W A len xss → _) := fun W h => f22_any A n len c xss W h
    have HX := Lib.hid h1
    clear h1 h3 h4 hf ho
    by_cases hE : cutErr n xss = 0
    · obtain ⟨n, rfl, n1, n6, h20, hok⟩ := cutErr_zero hE
      have eR : cutR n xss = cutL n xss := by unfold cutR; rw [if_pos hE, Int.toNat_natCast]
      rw [hE, eR] at k22
      have hCo := cut_costOk n1 n6 h20 hok
      have hCs := cut_Sub hok
      have hC10 := check_good hCo hCs
      have k24 : Hid (∀ W A' k' c', Ints W A' k' (cutL n xss) → Calls Try.prog 24 #[.int .i64 n, .slice A' k' c'] W fun e w' => (∃ x y, e = .returned (.tuple #[.int .i64 x, .int .i64 y, .int .i64 10])) ∧ Below W.heap.size W w') := fun W A' k' c' h => by
        refine (f24_any A' n k' c' _ W h).mono ?_
        rintro e w' ⟨rfl, hb⟩
        rw [hC10]
        exact ⟨⟨_, _, rfl⟩, hb⟩
      have k21 : Hid (∀ W, Ints W B m ys → _) := fun W h => f21_any B n m d ys W h
      obtain ⟨N, hN, hshl⟩ := shl_one n (by omega)
      have hN1 : 1 ≤ N := by rw [hN]; exact Nat.pow_pos (by omega)
      have hN2 : N ≤ 64 := by rw [hN]; exact pow6 n n6
      have hall : Hid ((cutL n xss).getD (N - 1) 0 = 0) := by rw [hN]; exact cut_all n6 hok
      have hflip : Hid (∀ g, g < N → (cutL n xss).getD (N - 1 - g) 0 = (cutL n xss).getD g 0 ∧ 0 ≤ (cutL n xss).getD g 0) := fun g hg => by
        rw [hN] at hg ⊢
        exact ⟨cut_flip n6 hok g hg, (cut_in h20 hok g hg).1⟩
      have HLN : Hid ((cutL n xss).length = N) := by rw [hN]; exact cutL_len n xss
      have HSUM : Hid (subm n ys = true → (sumErr n (cutL n xss) ys = 4 ∧ sumR n (cutL n xss) ys = []) ∨ (sumErr n (cutL n xss) ys = 0 ∧ checkErr n (sumR n (cutL n xss) ys) = 10)) := fun hsm => by
        obtain ⟨q1, q2⟩ := subm_facts hsm
        rcases sum_cases hCo q1 with ⟨r1, r2⟩ | ⟨r1, r2, r3⟩
        · exact .inl ⟨r1, r2⟩
        · exact .inr ⟨r1, by rw [r2]; exact add_good hCo q1 r3 hCs q2⟩
      have k26 : Hid (∀ W A' k' c', Ints W A' k' (cutL n xss) → Ints W B m ys → _) := fun W A' k' c' h g => f26_any A' B n k' c' m d (cutL n xss) ys W h g
      clear hN hE eR hCo hCs hC10 h20 hok
      generalize cutL n xss = cl at *
      go_enter Try.func9, Try.ntmps9
      go_wp2_with fail
      refine k14.out.mono ?_
      rintro e w' ⟨rfl, rfl⟩
      go_wp2_with fail
      refine k14b.out.mono ?_
      rintro e w' ⟨rfl, rfl⟩
      go_wp2_with fail
      refine (k22.out _ I0.out).mono ?_
      rintro e w1 ⟨A1, k1, c1, rfl, hi, hb⟩
      obtain rfl : N = k1 := by rw [← HLN.out]; exact hi.len
      have B1 := Lib.hid (below_step b0.out hb)
      have C1 := Lib.hid hi
      have J1 := Lib.hid (J0.out.below hb)
      clear hb hi
      go_wp2_with fail
      refine (k24.out _ _ _ _ C1.out).mono ?_
      rintro e w2 ⟨⟨x, y, rfl⟩, hb⟩
      have B2 := Lib.hid (below_step B1.out hb)
      have C2 := Lib.hid (C1.out.below hb)
      have J2 := Lib.hid (J1.out.below hb)
      clear hb
      go_wp2_with fail
      obtain ⟨bA, off, rfl, hca⟩ := C2.out.ad (by omega)
      have hcN := hca (N - 1) (by omega)
      rw [hall.out] at hcN
      have HCA := Lib.hid hca
      clear hca
      have eN : (N : Int) - 1 = ((N - 1 : Nat) : Int) := by omega
      rw [eN]
      obtain ⟨M, hM⟩ : ∃ M, M = N - 1 := ⟨_, rfl⟩
      rw [← hM]
      rw [← hM] at hcN
      have HM := Lib.hid hM
      have hMN : M + 1 ≤ N := by omega
      have hMN2 : N ≤ M + 1 := by omega
      clear hM eN
      go_loopw [13] (fun i wr => ∃ k : Nat, k ≤ N ∧ i = .int .i64 k ∧ ∃ q, wr = w2.drewN q) (fun i _ => N - (intOf i).toNat)
      case atStart => exact ⟨0, by omega, rfl, 0, rfl⟩
      case round => as_aux_lemma =>
        obtain ⟨k, hk, rfl, q, rfl⟩ := hrel
        by_cases hlt : k < N
        · have f1 := HCA.out k hlt
          have f2 := HCA.out (M - k) (by omega)
          obtain ⟨f3, f4⟩ := hflip.out k hlt
          rw [HM.out] at f2
          rw [f3] at f2
          rw [← HM.out] at f2
          have s1 : (M : Int) - (k : Int) = ((M - k : Nat) : Int) := by omega
          have s2 : IntKind.i64.wrap ((M : Int) - (k : Int)) = ((M - k : Nat) : Int) := by rw [s1]; exact IntWalk.i64_in _ (by omega)
          have s3 : M - k < N := by omega
          generalize M - k = M2 at *
          generalize cl.getD k 0 = v at *
          clear f3
          go_wp2
          go_quiet (fail)
          go_wp2
          go_roundw
          case rel => exact ⟨k + 1, by omega, by go_num, by first | exact ⟨_, rfl⟩ | exact ⟨_, World.drewN_drewN _ _ _⟩⟩
          case measure => simp [intOf]; omega
        · obtain rfl : k = N := by omega
          have B3 := Lib.hid (below_drewN B2.out q)
          have C3 := Lib.hid (C2.out.drewN q)
          have J3 := Lib.hid (J2.out.drewN q)
          cases hsm : subm n ys
          · rw [hsm] at k21
            clear hsm
            go_wp2_with fail
            refine (k21.out _ J3.out).mono ?_
            rintro e w3 ⟨rfl, md, hw3⟩
            have hd : ∃ md, w3 = (w2.drewN q).drewN md := ⟨md, hw3⟩
            have B4 := Lib.hid (below_step B3.out (below_draw hd))
            have hcN3 : w3.cell? ⟨bA, off + M, none⟩ = some (.int .i64 0) := by rw [hw3]; exact hcN
            clear hw3 hd hcN
            go_wp2_with fail
            refine (f15_any _).mono ?_
            rintro e w6 ⟨rfl, hb6⟩
            have B6 := Lib.hid (below_step B4.out hb6)
            clear hb6
            go_wp2_with fail
            go_ret
            exact ⟨rfl, B6.out⟩
          · rw [hsm] at k21
            have hsu := HSUM.out hsm
            have HSU := Lib.hid hsu
            clear hsm hsu HSUM
            go_wp2_with fail
            refine (k21.out _ J3.out).mono ?_
            rintro e w3 ⟨rfl, hd⟩
            have hb := below_draw hd
            have B4 := Lib.hid (below_step B3.out hb)
            have C4 := Lib.hid (C3.out.below hb)
            have J4 := Lib.hid (J3.out.below hb)
            clear hd hb hcN
            go_wp2_with fail
            refine (k26.out _ _ _ _ C4.out J4.out).mono ?_
            rintro e w4 ⟨A4, k4, c4, rfl, hi, hb⟩
            have B5 := Lib.hid (below_step B4.out hb)
            have S5 := Lib.hid hi
            clear hb hi
            rcases HSU.out with ⟨r1, r2⟩ | ⟨r1, r2⟩
            · have hk4 : k4 = 0 := by rw [← S5.out.len, r2]; rfl
              subst hk4
              rw [r1]
              clear r1 r2 HSU
              go_wp2_with fail
              refine (f15_any _).mono ?_
              rintro e w6 ⟨rfl, hb6⟩
              have B6 := Lib.hid (below_step B5.out hb6)
              clear hb6
              go_wp2_with fail
              go_ret
              exact ⟨rfl, B6.out⟩
            · have k24s := Lib.hid (f24_any A4 n k4 c4 _ w4 S5.out)
              rw [r2] at k24s
              rw [r1]
              clear r1 r2 HSU
              go_wp2_with fail
              refine k24s.out.mono ?_
              rintro e w5 ⟨rfl, hb⟩
              have B6 := Lib.hid (below_step B5.out hb)
              clear hb
              go_wp2_with fail
              refine (f15_any _).mono ?_
              rintro e w6 ⟨rfl, hb6⟩
              have B7 := Lib.hid (below_step B6.out hb6)
              clear hb6
              go_wp2_with fail
              go_ret
              exact ⟨rfl, B7.out⟩
    · have eR : cutR n xss = [] := by unfold cutR; rw [if_neg hE]
      have hq : (cutErr n xss != 0) = true := by simpa using hE
      rw [eR] at k22
      generalize cutErr n xss = er at *
      clear hE eR
      go_enter Try.func9, Try.ntmps9
      go_wp2_with fail
      refine k14.out.mono ?_
      rintro e w' ⟨rfl, rfl⟩
      go_wp2_with fail
      refine k14b.out.mono ?_
      rintro e w' ⟨rfl, rfl⟩
      go_wp2_with fail
      refine (k22.out _ I0.out).mono ?_
      rintro e w1 ⟨A1, k1, c1, rfl, hi, hb⟩
      obtain rfl : k1 = 0 := hi.len.symm
      have B1 := Lib.hid (below_step b0.out hb)
      clear hb hi
      go_wp2_with fail
      refine (f15_any _).mono ?_
      rintro e w6 ⟨rfl, hb6⟩
      have B6 := Lib.hid (below_step B1.out hb6)
      clear hb6
      go_wp2_with fail
      go_ret
      exact ⟨rfl, B6.out⟩
  · rw [decide_eq_false hm] at k14b
    clear h1 h3 h4 hf ho hm
    go_enter Try.func9, Try.ntmps9
    go_wp2_with fail
    refine k14.out.mono ?_
    rintro e w' ⟨rfl, rfl⟩
    go_wp2_with fail
    refine k14b.out.mono ?_
    rintro e w' ⟨rfl, rfl⟩
    go_wp2_with fail
    refine (f15_any _).mono ?_
    rintro e w6 ⟨rfl, hb6⟩
    have B6 := Lib.hid (below_step b0.out hb6)
    clear hb6
    go_wp2_with fail
    go_ret
    exact ⟨rfl, B6.out⟩
end Go.Proofs.Ytpehhbiodmgjeaa
