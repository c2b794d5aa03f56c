/- Walk: ShareWeights. -/
import Derived.Test.YtpehhbiodmgjeaaW32
namespace Go.Proofs.Ytpehhbiodmgjeaa
open Go.RowKit

set_option maxHeartbeats 4000000 in
/-- dibberlaw08.ShareWeights -/
theorem f10_any (n : Int) (A B : Option Addr) (len c m d : Nat) (xs ys : List Int) (w : World) (hs : Came w A len xs) (ho : Came w B m ys) :
    Calls Try.prog 10 #[.int .i64 n, .slice A len c, .slice B m d] w fun e w' => e = .returned (.bool true) ∧ Below w.heap.size w w' := by
  have k14 := Lib.hid (c14_2 A B len c m d w hs.len ho.len)
  have b0 := Lib.hid (below_alloc w (.cells #[.slice A len c, .slice B m d] 22))
  by_cases hl : len ≤ 100 ∧ m ≤ 100
  · have I0 := Lib.hid ((hs.2 hl.1).below b0.out)
    have J0 := Lib.hid ((ho.2 hl.2).below b0.out)
    rw [decide_eq_true hl.1, decide_eq_true hl.2] at k14
    clear hs ho hl
    go_enter Try.func10, Try.ntmps10
    go_wp2_with fail
    refine k14.out.mono ?_
    rintro e w' ⟨rfl, rfl⟩
    go_wp2_with fail
    refine (f33_any A B n len c m d xs ys _ I0.out J0.out).mono ?_
    rintro e w1 ⟨rfl, hb⟩
    have B1 := Lib.hid (below_step b0.out hb)
    have I1 := Lib.hid (I0.out.below hb)
    have J1 := Lib.hid (J0.out.below hb)
    clear hb
    go_wp2_with fail
    refine (f34_any A B n len c m d xs ys _ I1.out J1.out).mono ?_
    rintro e w2 ⟨rfl, rfl⟩
    go_wp2_with fail
    refine (f35_any A B n len c m d xs ys _ I1.out J1.out).mono ?_
    rintro e w3 ⟨A3, k3, c3, rfl, hi, hb⟩
    have B3 := Lib.hid (below_step B1.out hb)
    have I3 := Lib.hid (I1.out.below hb)
    have J3 := Lib.hid (J1.out.below hb)
    have S3 := Lib.hid hi
    clear hb hi
    go_wp2_with fail
    refine (f36_any A B n len c m d xs ys _ I3.out J3.out).mono ?_
    rintro e w4 ⟨A4, k4, c4, rfl, hi, hb⟩
    have B4 := Lib.hid (below_step B3.out hb)
    have S4 := Lib.hid (S3.out.below hb)
    have T4 := Lib.hid hi
    clear hb hi
    go_wp2_with fail
    refine (f20_any _ _ _ _ _ _ _ _ _ S4.out T4.out).mono ?_
    rintro e w5 ⟨rfl, hd⟩
    rw [decide_eq_true (rfl : dearR n xs ys = dearR n xs ys)]
    have B5 := Lib.hid (below_step B4.out (below_draw hd))
    clear hd
    go_wp2_with fail
    refine (f15_any _).mono ?_
    rintro e w6 ⟨rfl, hb⟩
    have B6 := Lib.hid (below_step B5.out hb)
    clear hb
    go_wp2_with fail
    go_ret
    exact ⟨rfl, B6.out⟩
  · have hf : (decide (len ≤ 100) && decide (m ≤ 100)) = false := by
      rw [Bool.eq_false_iff]
      simpa using hl
    rw [hf] at k14
    clear hs ho hl hf
    go_enter Try.func10, Try.ntmps10
    go_wp2_with fail
    refine k14.out.mono ?_
    rintro e w' ⟨rfl, rfl⟩
    go_wp2_with fail
    refine (f15_any _).mono ?_
    rintro e w6 ⟨rfl, hb6⟩
    have B6 := Lib.hid (below_step b0.out hb6)
    clear hb6
    go_wp2_with fail
    go_ret
    exact ⟨rfl, B6.out⟩
end Go.Proofs.Ytpehhbiodmgjeaa
