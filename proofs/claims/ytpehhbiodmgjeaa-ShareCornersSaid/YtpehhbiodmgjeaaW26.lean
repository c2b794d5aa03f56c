/- Walks: Fair (both). -/
import Derived.Test.YtpehhbiodmgjeaaW25
namespace Go.Proofs.Ytpehhbiodmgjeaa
open Go.RowKit

set_option maxHeartbeats 2000000 in
/-- dibberref08.Fair -/
theorem f31_any (A B : Option Addr) (n : Int) (len c m d : Nat) (xs l : List Int) (w : World) (hs : Ints w A len xs) (ho : Ints w B m l) :
    Calls Try.prog 31 #[.int .i64 n, .slice A len c, .slice B m d] w fun e w' => e = .returned (.tuple #[.int .i64 (fairG n xs l), .bool (fairB n xs l), .int .i64 (fairErr n xs l)]) ∧ Below w.heap.size w w' := by
  have k54 : Hid (Calls Try.prog 54 #[.int .i64 n, .slice A len c] w fun e w' => e = .returned (.bool (costOk n xs)) ∧ w = w') := f54_any A n len c xs w hs
  cases hok : costOk n xs
  · have h1 : Hid (fairG n xs l = 0) := by unfold fairG; rw [hok]; rfl
    have h2 : Hid (fairB n xs l = false) := by unfold fairB; rw [hok]; rfl
    have h3 : Hid (fairErr n xs l = 2) := by unfold fairErr; rw [hok]; rfl
    rw [hok] at k54
    rw [h1.out, h2.out, h3.out]
    clear hok
    go_enter Try.func31, Try.ntmps31
    go_wp2_with fail
    refine k54.out.mono ?_
    rintro e w' ⟨rfl, rfl⟩
    go_wp2
    refine bodyPost_ret (results_tmp3 rfl _ _ _) rfl ?_
    exact ⟨rfl, Below.refl _ _⟩
  obtain ⟨n', rfl, hn1, h6, hln, hbd, h0⟩ := costOk_facts hok
  rw [hok] at k54
  have k43 : Hid (Calls Try.prog 43 #[.int .i64 (n' : Int), .slice B m d] w fun e w' => e = .returned (.bool (shOk n' l)) ∧ w = w') := f43_any B n' m d l w ho h6
  cases hsh : shOk n' l
  · have h1 : Hid (fairG n' xs l = 0) := by unfold fairG; rw [hok, Int.toNat_natCast, hsh]; rfl
    have h2 : Hid (fairB n' xs l = false) := by unfold fairB; rw [hok, Int.toNat_natCast, hsh]; rfl
    have h3 : Hid (fairErr n' xs l = 2) := by unfold fairErr; rw [hok, Int.toNat_natCast, hsh]; rfl
    rw [hsh] at k43
    rw [h1.out, h2.out, h3.out]
    clear hok hsh hbd h0
    go_enter Try.func31, Try.ntmps31
    go_wp2_with fail
    refine k54.out.mono ?_
    rintro e w' ⟨rfl, rfl⟩
    go_wp2_with fail
    refine k43.out.mono ?_
    rintro e w' ⟨rfl, rfl⟩
    go_wp2
    refine bodyPost_ret (results_tmp3 rfl _ _ _) rfl ?_
    exact ⟨rfl, Below.refl _ _⟩
  · have h1 : Hid (fairG n' xs l = fairI xs l) := by unfold fairG; rw [hok, Int.toNat_natCast, hsh]; rfl
    have h2 : Hid (fairB n' xs l = isFair xs l) := by unfold fairB; rw [hok, Int.toNat_natCast, hsh]; rfl
    have h3 : Hid (fairErr n' xs l = 0) := by unfold fairErr; rw [hok, Int.toNat_natCast, hsh]; rfl
    obtain ⟨hl1, hl2⟩ := shOk_facts hsh
    rw [hsh] at k43
    rw [h1.out, h2.out, h3.out]
    have k63 := Lib.hid (f63_any A B len c m d xs l w hs ho (by rw [← ho.len]; omega) (by rw [← hs.len, hln]; exact pow6 n' h6) (by rw [← hs.len, hln]; exact Nat.pow_pos (by omega)) hl2)
    generalize fairI xs l = gI at *
    generalize isFair xs l = gB at *
    clear hok hsh hbd h0 hl1 hl2
    go_enter Try.func31, Try.ntmps31
    go_wp2_with fail
    refine k54.out.mono ?_
    rintro e w' ⟨rfl, rfl⟩
    go_wp2_with fail
    refine k43.out.mono ?_
    rintro e w' ⟨rfl, rfl⟩
    go_wp2_with fail
    refine k63.out.mono ?_
    rintro e w' ⟨rfl, hd⟩
    have B1 := Lib.hid (below_draw hd)
    clear hd
    go_wp2
    refine bodyPost_ret (results_tmp3 rfl _ _ _) rfl ?_
    exact ⟨rfl, B1.out⟩

set_option maxHeartbeats 4000000 in
/-- share.Fair -/
theorem f30_any (A B : Option Addr) (n : Int) (len c m d : Nat) (xs l : List Int) (w : World) (hs : Ints w A len xs) (ho : Ints w B m l) :
    Calls Try.prog 30 #[.int .i64 n, .slice A len c, .slice B m d] w fun e w' => e = .returned (.tuple #[.int .i64 (fairG n xs l), .bool (fairB n xs l), .int .i64 (fairErr n xs l)]) ∧ Below w.heap.size w w' := by
  cases hok : costOk n xs
  · have h1 : Hid (fairG n xs l = 0) := by unfold fairG; rw [hok]; rfl
    have h2 : Hid (fairB n xs l = false) := by unfold fairB; rw [hok]; rfl
    have h3 : Hid (fairErr n xs l = 2) := by unfold fairErr; rw [hok]; rfl
    have k52 := Lib.hid (f52_no A n len c xs w hs hok)
    rw [h1.out, h2.out, h3.out]
    clear hok
    go_enter Try.func30, Try.ntmps30
    go_wp2_with fail
    refine k52.out.mono ?_
    rintro e w' ⟨rfl, rfl⟩
    go_wp2
    refine bodyPost_ret (results_tmp3 rfl _ _ _) rfl ?_
    exact ⟨rfl, Below.refl _ _⟩
  obtain ⟨n', rfl, hn1, h6, hln, hbd, h0⟩ := costOk_facts hok
  have k52 := Lib.hid (f52_yes A n' len c xs w hs hok)
  have b0 := Lib.hid (below_alloc w (.cells #[.int .i64 (n' : Int), .slice A len c] 60))
  have hC := Lib.hid (Costs.new w n' A len c)
  have k59 := Lib.hid (f59_any w.heap.size A B n' len c m d l _ hC.out (ho.below b0.out))
  cases hsh : shOk n' l
  · have h1 : Hid (fairG n' xs l = 0) := by unfold fairG; rw [hok, Int.toNat_natCast, hsh]; rfl
    have h2 : Hid (fairB n' xs l = false) := by unfold fairB; rw [hok, Int.toNat_natCast, hsh]; rfl
    have h3 : Hid (fairErr n' xs l = 2) := by unfold fairErr; rw [hok, Int.toNat_natCast, hsh]; rfl
    rw [hsh] at k59
    rw [h1.out, h2.out, h3.out]
    clear hok hsh hbd h0
    go_enter Try.func30, Try.ntmps30
    go_wp2_with fail
    refine k52.out.mono ?_
    rintro e w' ⟨rfl, rfl⟩
    go_wp2_with fail
    refine k59.out.mono ?_
    rintro e w1 ⟨rfl, hb1⟩
    have B1 := Lib.hid (below_step b0.out hb1)
    clear hb1
    go_wp2
    refine bodyPost_ret (results_tmp3 rfl _ _ _) rfl ?_
    exact ⟨rfl, B1.out⟩
  · obtain ⟨hl1, hl2⟩ := shOk_facts hsh
    rw [hsh] at k59
    have hm6 : m ≤ 6 := by rw [← ho.len]; omega
    have hl64 : len ≤ 64 := by rw [← hs.len, hln]; exact pow6 n' h6
    have hpos : 0 < len := by rw [← hs.len, hln]; exact Nat.pow_pos (by omega)
    have HI := Lib.hid (hs.below b0.out)
    have HO := Lib.hid (ho.below b0.out)
    have HLL : Hid (2 ^ n' - 1 = len - 1) := by rw [← hs.len, hln]; rfl
    have HXL := Lib.hid hs.len
    have HB2 := Lib.hid hl2
    have e3 : fairErr n' xs l = 0 := by unfold fairErr; rw [hok, Int.toNat_natCast, hsh]; rfl
    have e1 : fairG n' xs l = fairI xs l := by unfold fairG; rw [hok, Int.toNat_natCast, hsh]; rfl
    have e2 : fairB n' xs l = isFair xs l := by unfold fairB; rw [hok, Int.toNat_natCast, hsh]; rfl
    rw [e1, e2, e3]
    have hI : Hid (fairI xs l = if overI xs l < 0 then (len : Int) - 1 else overI xs l) := by unfold fairI; rw [hs.len]; rfl
    have hF : Hid (isFair xs l = (decide (overI xs l < 0) && (pay l (len - 1) == xs.getD (len - 1) 0))) := by unfold isFair; rw [hs.len]; rfl
    have k60 : Hid (∀ W p, Costs W p n' A len c → Ints W A len xs → Ints W B m l → _) := fun W p h1 h2 h3 => f60_any p A B n' len c m d xs l W h1 h2 h3 hm6 hl64 hl2
    generalize overI xs l = ov at *
    clear hok hsh hbd h0 hl1 hl2 e1 e2 e3 hs ho hln
    by_cases hov : ov < 0
    · have hI2 : Hid (fairI xs l = ((len - 1 : Nat) : Int)) := by rw [hI.out, if_pos hov]; unfold Hid; omega
      have hF2 : Hid (isFair xs l = (pay l (len - 1) == xs.getD (len - 1) 0)) := by rw [hF.out, decide_eq_true hov]; rfl
      rw [hI2.out, hF2.out]
      clear hI hF hI2 hF2
      have hM : len - 1 < len := by omega
      generalize len - 1 = M at *
      generalize hbb : (pay l M == xs.getD M 0) = bb at *
      have HBB := Lib.hid hbb
      clear hbb
      go_enter Try.func30, Try.ntmps30
      go_wp2_with fail
      refine k52.out.mono ?_
      rintro e w' ⟨rfl, rfl⟩
      go_wp2_with fail
      refine k59.out.mono ?_
      rintro e w1 ⟨rfl, hb1⟩
      have B1 := Lib.hid (below_step b0.out hb1)
      have C1 := Lib.hid (hC.out.below hb1)
      have I1 := Lib.hid (HI.out.below hb1)
      have O1 := Lib.hid (HO.out.below hb1)
      clear hb1
      go_wp2_with fail
      refine (k60.out _ _ C1.out I1.out O1.out).mono ?_
      rintro e w2 ⟨rfl, hd⟩
      have hb := below_draw hd
      have B2 := Lib.hid (below_step B1.out hb)
      have C2 := Lib.hid (C1.out.below hb)
      have hc2 := C2.out.2
      obtain ⟨bA, oA, rfl, hca⟩ := (I1.out.below hb).ad hpos
      have hcx := hca M hM
      have O2 := Lib.hid (O1.out.below hb)
      have K48 : Hid (∀ a, _) := fun a => f48_any w.heap.size n' _ len c (w2.drewN a) (C2.out.drewN a) h6
      rw [HLL.out] at K48
      have K61 : Hid (∀ a, _) := fun a => f61_any B m d M l (w2.drewN a) (O2.out.drewN a) hm6 (by omega) HB2.out
      clear hb hd hca
      generalize xs.getD M 0 = x at *
      generalize pay l M = y at *
      go_wp2_with fail
      go_quiet ((first | (go_at_call 48; exact quietly (K48.out _)) | (go_at_call 61; exact quietly (K61.out _))))
      go_wp2
      refine bodyPost_ret (results_tmp3 rfl _ _ _) rfl ?_
      exact ⟨by rw [← HBB.out]; rfl, below_drewN B2.out _⟩
    · have hI2 : Hid (fairI xs l = ov) := by rw [hI.out, if_neg hov]; rfl
      have hF2 : Hid (isFair xs l = false) := by rw [hF.out, decide_eq_false hov]; rfl
      rw [hI2.out, hF2.out]
      clear hI hF hI2 hF2
      go_enter Try.func30, Try.ntmps30
      go_wp2_with fail
      refine k52.out.mono ?_
      rintro e w' ⟨rfl, rfl⟩
      go_wp2_with fail
      refine k59.out.mono ?_
      rintro e w1 ⟨rfl, hb1⟩
      have B1 := Lib.hid (below_step b0.out hb1)
      have C1 := Lib.hid (hC.out.below hb1)
      have I1 := Lib.hid (HI.out.below hb1)
      have O1 := Lib.hid (HO.out.below hb1)
      clear hb1
      go_wp2_with fail
      refine (k60.out _ _ C1.out I1.out O1.out).mono ?_
      rintro e w2 ⟨rfl, hd⟩
      have B2 := Lib.hid (below_step B1.out (below_draw hd))
      clear hd
      go_wp2
      refine bodyPost_ret (results_tmp3 rfl _ _ _) rfl ?_
      exact ⟨rfl, B2.out⟩
end Go.Proofs.Ytpehhbiodmgjeaa
