/- Walks: alive. -/
import Derived.Test.YtiodednhadnekaaDoorW29
namespace Go.Proofs.YtiodednhadnekaaDoor
open Go.RowKit Go.Deep
attribute [local go_sem ↓] Go.wp_at_zero Go.wp_at_succ

set_option maxRecDepth 100000 in
set_option maxHeartbeats 8000000 in
/-- dibberlaw01.alive -/
theorem f17_any (w : World) (ht : Tab w) : Calls Tryd.prog 17 #[] w fun e w' => e = .returned (.bool true) ∧ Below w.heap.size w w' := by
  have K38 : Hid (Calls Tryd.prog 38 #[.int .i64 3, .int .i64 1] w fun e w' => ∃ A c, e = .returned (.tuple #[.slice A 3 c, .int .i64 0]) ∧ BedsN w' w.heap.size A 3 c cyc3 ∧ Below w.heap.size w w') := Lib.hid (by
    have h := f38_yes 3 1 w (by unfold cycOk; decide)
    rw [cyc3_is] at h
    exact h)
  have HT := Lib.hid ht
  clear ht
  go_enter Tryd.func17, Tryd.ntmps17
  go_wp2_with fail
  refine K38.out.mono ?_
  rintro e w1 ⟨A, c, rfl, hb1, hw1⟩
  have B1 := Lib.hid hb1.beds
  have W1 := Lib.hid hw1
  clear hb1 hw1 K38
  go_wp2_with fail
  refine (f22_any A 3 c cyc3 w1 B1.out).mono ?_
  rintro e w2 ⟨A2, k2, c2, rfl, hb2, hw2⟩
  rw [mate3] at hb2
  have hk2 : k2 = 3 := hb2.1.symm
  subst hk2
  rw [mateE3]
  have M2 := Lib.hid hb2.beds
  have B2 := Lib.hid (B1.out.below hw2)
  have W2 := Lib.hid (below_step W1.out hw2)
  clear hb2 hw2 B1 W1
  go_wp2_with fail
  refine (f30_any A 3 c cyc3 w2 B2.out).mono ?_
  rintro e w3 ⟨rfl, hw3⟩
  rw [tr3.1, tr3.2]
  have M3 := Lib.hid (M2.out.below hw3)
  have W3 := Lib.hid (below_step W2.out hw3)
  clear hw3 B2 W2 M2
  obtain ⟨wa, hwa, hba, hla⟩ := lit3 w3 0 (-1) (-1) (-1) (-1) 0 (-1) (-1) (-1)
  go_wp2_with fail
  rw [← hwa]
  clear hwa
  refine (f19_any _ 3 3 bed3 wa hla ((HT.out.below W3.out).below hba)).mono ?_
  rintro e w4 ⟨A4, k4, c4, rfl, hb4, hw4⟩
  rw [fillLE3.1] at hb4
  rw [fillLE3.2]
  have hk4 : k4 = 3 := hb4.1.symm
  subst hk4
  have L4 := Lib.hid hb4.beds
  have M4 := Lib.hid ((M3.out.below hba).below hw4)
  have W4 := Lib.hid (below_step (below_step W3.out hba) hw4)
  clear hla hba hb4 hw4 M3 W3
  obtain ⟨wb, hwb, hbb, hlb⟩ := lit3 w4 0 1 2 2 0 1 1 2 0
  go_wp2_with fail
  rw [← hwb]
  clear hwb
  refine (f20_any A2 _ 3 c2 3 3 mat3 mat3 wb (M4.out.below hbb) hlb).mono ?_
  rintro e w5 ⟨rfl, k5, rfl⟩
  rw [show decide (mat3 = mat3) = true from by decide]
  have W5 := Lib.hid (below_drewN (below_step W4.out hbb) k5)
  have L5 := Lib.hid ((L4.out.below hbb).drewN k5)
  clear hbb hlb L4 M4 W4
  obtain ⟨wc, hwc⟩ : ∃ z, z = wb.drewN k5 := ⟨_, rfl⟩
  rw [← hwc] at W5 L5 ⊢
  clear hwc
  obtain ⟨wd, hwd, hbd, hld⟩ := lit3 wc 0 1 2 1 2 0 2 0 1
  go_wp2_with fail
  rw [← hwd]
  clear hwd
  refine (f20_any A4 _ 3 c4 3 3 cyc3 cyc3 wd (L5.out.below hbd) hld).mono ?_
  rintro e w6 ⟨rfl, k6, rfl⟩
  rw [show decide (cyc3 = cyc3) = true from by decide]
  have W6 := Lib.hid (below_drewN (below_step W5.out hbd) k6)
  clear hbd hld L5 W5
  go_wp2
  go_ret
  exact ⟨rfl, W6.out⟩
end Go.Proofs.YtiodednhadnekaaDoor
