/- Walk: ShareLovasz, all ways. -/
import Derived.Test.YtpehhbiodmgjeaaW34
namespace Go.Proofs.Ytpehhbiodmgjeaa
open Go.RowKit

set_option maxRecDepth 100000 in
set_option maxHeartbeats 8000000 in
/-- dibberlaw08.ShareLovasz -/
theorem f11_any (n : Int) (A B C D : Option Addr) (len c m d q e r f : Nat) (xs ws zs ys : List Int) (a : Int) (w : World) (hA : Came w A len xs) (hB : Came w B m ws) (hC : Came w C q zs) (hD : Came w D r ys) (ha : 0 ≤ a ∧ a ≤ 255) :
    Calls Try.prog 11 #[.int .i64 n, .slice A len c, .slice B m d, .slice C q e, .slice D r f, .int .u8 a] w fun e w' => e = .returned (.bool true) ∧ Below w.heap.size w w' := by
  have k14 := Lib.hid (c14_4 A B C D len c m d q e r f w hA.len hB.len hC.len hD.len)
  have b0 := Lib.hid (below_alloc w (.cells #[.slice A len c, .slice B m d, .slice C q e, .slice D r f] 22))
  by_cases hl : len ≤ 100 ∧ m ≤ 100 ∧ q ≤ 100 ∧ r ≤ 100
  · obtain ⟨l1, l2, l3, l4⟩ := hl
    by_cases hg : ∃ n' : Nat, n = n' ∧ asked n xs = 0 ∧ wOk n' ws = true
    · obtain ⟨n', rfl, h1, h2⟩ := hg
      exact f11_good n' A B C D len c m d q e r f xs ws zs ys a w (hA.2 l1) (hB.2 l2) (hC.2 l3) (hD.2 l4) l1 l2 l3 l4 ha h1 h2
    · have I0 := Lib.hid ((hA.2 l1).below b0.out)
      have J0 := Lib.hid ((hB.2 l2).below b0.out)
      rw [decide_eq_true l1, decide_eq_true l2, decide_eq_true l3, decide_eq_true l4] at k14
      have hdE : dearErr n xs ws ≠ 0 := by
        intro h
        unfold dearErr at h
        by_cases h1 : asked n xs = 0
        · obtain ⟨n', rfl, _⟩ := costOk_facts (asked_zero h1).1
          rw [if_pos h1, Int.toNat_natCast] at h
          cases hw : wOk n' ws
          · rw [hw] at h; cases h
          · exact hg ⟨n', rfl, h1, hw⟩
        · rw [if_neg h1] at h; exact h1 h
      have dR : dearR n xs ws = [] := by unfold dearR; rw [if_neg hdE]
      have dS : dearS n xs ws = 0 := by unfold dearS; rw [if_neg hdE]
      have k33 : Hid (∀ W, Ints W A len xs → Ints W B m ws → _) := fun W h1 h2 => f33_any A B n len c m d xs ws W h1 h2
      have k35 : Hid (∀ W, Ints W A len xs → Ints W B m ws → _) := fun W h1 h2 => f35_any A B n len c m d xs ws W h1 h2
      rw [dR, dS] at k35
      have k21 : Hid (∀ W, Ints W A len xs → _) := fun W h => f21_any A n len c xs W h
      have hq : (dearErr n xs ws != 0) = true := by simpa using hdE
      generalize dearErr n xs ws = er at *
      clear hA hB hC hD dR dS hdE
      have hcase : (subm n xs = false) ∨ (subm n xs = true ∧ ∃ n' : Nat, n = n' ∧ n' ≤ 6 ∧ wOk n' ws = false) := by
        rw [subm_asked]
        by_cases h1 : asked n xs = 0
        · obtain ⟨n', rfl, _, h6, _⟩ := costOk_facts (asked_zero h1).1
          refine .inr ⟨decide_eq_true h1, n', rfl, h6, ?_⟩
          cases hw : wOk n' ws
          · rfl
          · exact absurd ⟨n', rfl, h1, hw⟩ hg
        · exact .inl (decide_eq_false h1)
      clear hg
      rcases hcase with hsm | ⟨hsm, n', rfl, h6, hw⟩
      · rw [hsm] at k21
        clear hsm
        go_enter Try.func11, Try.ntmps11
        go_wp2_with fail
        refine k14.out.mono ?_
        rintro e w' ⟨rfl, rfl⟩
        go_wp2_with fail
        refine (k33.out _ I0.out J0.out).mono ?_
        rintro e w1 ⟨rfl, hb⟩
        have B1 := Lib.hid (below_step b0.out hb)
        have I1 := Lib.hid (I0.out.below hb)
        have J1 := Lib.hid (J0.out.below hb)
        clear hb
        go_wp2_with fail
        refine (k35.out _ I1.out J1.out).mono ?_
        rintro e w2 ⟨A2, k2, c2, rfl, hi, hb⟩
        obtain rfl : k2 = 0 := hi.len.symm
        have B2 := Lib.hid (below_step B1.out hb)
        have I2 := Lib.hid (I1.out.below hb)
        clear hb hi
        go_wp2_with fail
        refine (k21.out _ I2.out).mono ?_
        rintro e w3 ⟨rfl, hd⟩
        have B3 := Lib.hid (below_step B2.out (below_draw hd))
        clear hd
        go_wp2_with fail
        refine (f15_any _).mono ?_
        rintro e w6 ⟨rfl, hb6⟩
        have B6 := Lib.hid (below_step B3.out hb6)
        clear hb6
        go_wp2_with fail
        go_ret
        exact ⟨rfl, B6.out⟩
      · rw [hsm] at k21
        have k37 : Hid (∀ W, Ints W B m ws → _) := fun W h => f37_any B n' m d ws W h h6
        rw [hw] at k37
        clear hsm hw
        go_enter Try.func11, Try.ntmps11
        go_wp2_with fail
        refine k14.out.mono ?_
        rintro e w' ⟨rfl, rfl⟩
        go_wp2_with fail
        refine (k33.out _ I0.out J0.out).mono ?_
        rintro e w1 ⟨rfl, hb⟩
        have B1 := Lib.hid (below_step b0.out hb)
        have I1 := Lib.hid (I0.out.below hb)
        have J1 := Lib.hid (J0.out.below hb)
        clear hb
        go_wp2_with fail
        refine (k35.out _ I1.out J1.out).mono ?_
        rintro e w2 ⟨A2, k2, c2, rfl, hi, hb⟩
        obtain rfl : k2 = 0 := hi.len.symm
        have B2 := Lib.hid (below_step B1.out hb)
        have I2 := Lib.hid (I1.out.below hb)
        have J2 := Lib.hid (J1.out.below hb)
        clear hb hi
        go_wp2_with fail
        refine (k21.out _ I2.out).mono ?_
        rintro e w3 ⟨rfl, hd⟩
        have B3 := Lib.hid (below_step B2.out (below_draw hd))
        have J3 := Lib.hid (J2.out.below (below_draw hd))
        clear hd
        go_wp2_with fail
        refine (k37.out _ J3.out).mono ?_
        rintro e w' ⟨rfl, rfl⟩
        go_wp2_with fail
        refine (f15_any _).mono ?_
        rintro e w6 ⟨rfl, hb6⟩
        have B6 := Lib.hid (below_step B3.out hb6)
        clear hb6
        go_wp2_with fail
        go_ret
        exact ⟨rfl, B6.out⟩
  · have hf : (decide (len ≤ 100) && (decide (m ≤ 100) && (decide (q ≤ 100) && decide (r ≤ 100)))) = false := by
      rw [Bool.eq_false_iff]
      simpa using hl
    rw [hf] at k14
    clear hA hB hC hD hl hf
    go_enter Try.func11, Try.ntmps11
    go_wp2_with fail
    refine k14.out.mono ?_
    rintro e w' ⟨rfl, rfl⟩
    go_wp2_with fail
    refine (f15_any _).mono ?_
    rintro e w6 ⟨rfl, hb6⟩
    have B6 := Lib.hid (below_step b0.out hb6)
    clear hb6
    go_wp2_with fail
    go_ret
    exact ⟨rfl, B6.out⟩
end Go.Proofs.Ytpehhbiodmgjeaa
