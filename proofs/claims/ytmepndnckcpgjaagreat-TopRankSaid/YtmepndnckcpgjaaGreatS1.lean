/- Walks: fenced, shared. -/
import Derived.Test.YtmepndnckcpgjaaGreatM1
import Derived.Test.YtmepndnckcpgjaaGreatM3
import Derived.Test.YtmepndnckcpgjaaGreatM2
namespace Go.Proofs.YtmepndnckcpgjaaGreat
open Go.RowKit
set_option maxRecDepth 100000 in
set_option maxHeartbeats 8000000 in
/-- dibbertop.fenced -/
theorem f17_any (w : World) : Calls Tryz.prog 17 #[] w fun e w' => e = .returned (.bool true) ∧ Below w.heap.size w w' := by
  have b1 := below_alloc w (.cells #[.int .i64 0, .int .i64 1, .int .i64 1, .int .i64 2, .int .i64 2, .int .i64 0] 37)
  have r1 : (w.alloc (.cells #[.int .i64 0, .int .i64 1, .int .i64 1, .int .i64 2, .int .i64 2, .int .i64 0] 37)).rangeAt w.heap.size 0 (fenV triL) := by
    intro j v hv
    obtain ⟨hj, rfl⟩ := fenV_at hv
    rw [Nat.zero_add, cell_new]
    have hj6 : j < 6 := hj
    have hj7 : j = 0 ∨ j = 1 ∨ j = 2 ∨ j = 3 ∨ j = 4 ∨ j = 5 := by omega
    rcases hj7 with rfl | rfl | rfl | rfl | rfl | rfl <;> rfl
  have K40 := Lib.hid (f40_tri (some ⟨w.heap.size, 0, none⟩) 3 _ (rng_fens r1))
  have HB1 := Lib.hid b1
  clear b1 r1
  go_enter Tryz.func17, Tryz.ntmps17
  go_wp2_with fail
  refine K40.out.mono ?_
  rintro e w1 ⟨rfl, hb⟩
  have HB2 := Lib.hid (below_step HB1.out hb)
  clear hb
  go_wp2_with fail
  refine (f41r_none w1).mono ?_
  rintro e w2 ⟨rfl, hb⟩
  have hal := below_alloc w2 (.cells #[.int .i64 0, .int .i64 1, .int .i64 1, .int .i64 2] 75)
  have HB3 := Lib.hid (below_step (below_step HB2.out hb) hal)
  have K42 := Lib.hid (f42_one w2.heap.size (w2.alloc (.cells #[.int .i64 0, .int .i64 1, .int .i64 1, .int .i64 2] 75)) ⟨(cell_new w2 _ 75 0).trans rfl, (cell_new w2 _ 75 1).trans rfl, (cell_new w2 _ 75 2).trans rfl, (cell_new w2 _ 75 3).trans rfl⟩)
  clear hb hal
  go_wp2_with fail
  refine K42.out.mono ?_
  rintro e w3 ⟨rfl, hb⟩
  have HB4 := Lib.hid (below_step HB3.out hb)
  clear hb
  go_wp2
  go_ret
  exact ⟨rfl, HB4.out⟩
theorem two_corners : (cornersL 2 [0, 1, 1, 1]).length = 2 := by decide +kernel
theorem two_asked : asked 2 [0, 1, 1, 1] = 0 := by decide +kernel
set_option maxRecDepth 100000 in
set_option maxHeartbeats 8000000 in
/-- dibbertop.shared -/
theorem f7_any (w : World) : Calls Tryz.prog 7 #[] w fun e w' => e = .returned (.bool true) ∧ Below w.heap.size w w' := by
  have b1 := below_alloc w (.cells #[.int .i64 0, .int .i64 1, .int .i64 1, .int .i64 1] 3)
  have o1 : Own (w.alloc (.cells #[.int .i64 0, .int .i64 1, .int .i64 1, .int .i64 1] 3)) w.heap.size [0, 1, 1, 1] := heap_alloc_new w _
  have K9 := Lib.hid (f41_any (some ⟨w.heap.size, 0, none⟩) 2 4 4 [0, 1, 1, 1] _ (o1.ints' rfl (by decide)))
  rw [two_corners, two_asked] at K9
  have HB1 := Lib.hid b1
  clear b1 o1
  go_enter Tryz.func7, Tryz.ntmps7
  go_wp2_with fail
  refine K9.out.mono ?_
  rintro e w1 ⟨A', c', rfl, _, hb⟩
  have HB2 := Lib.hid (below_step HB1.out hb)
  clear hb K9
  go_wp2_with fail
  refine (f17_any w1).mono ?_
  rintro e w2 ⟨rfl, hb⟩
  have HB3 := Lib.hid (below_step HB2.out hb)
  clear hb
  go_wp2
  go_ret
  exact ⟨rfl, HB3.out⟩
end Go.Proofs.YtmepndnckcpgjaaGreat
