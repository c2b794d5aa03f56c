/- Walk: LuckRegrets. -/
import Derived.Test.YtfaenbaaadjbbaaW24
namespace Go.Proofs.Ytfaenbaaadjbbaa
open Go.RowKit

set_option maxRecDepth 100000 in
set_option maxHeartbeats 2000000 in
/-- dibberlaw05.LuckRegrets -/
theorem f3_any (k folk : Int) (A : Option Addr) (n c : Nat) (said : List (List Int)) (w : World) (hs : Came2 w A n said) :
    Calls Try.prog 3 #[.int .i64 k, .int .i64 folk, .slice A n c] w fun e w' => e = .returned (.bool true) ∧ Below w.heap.size w w' := by
  have k15 := Lib.hid (f15_any A none c n 0 0 _ w hs.1 (by omega))
  cases hf : fewB (said.map List.length) 0
  · rw [hf] at k15
    clear hs hf
    go_enter Try.func3, Try.ntmps3
    go_wp2_with fail
    refine k15.out.mono ?_
    rintro e w' ⟨rfl, rfl⟩
    go_wp2_with fail
    refine (f16_any _).mono ?_
    rintro e w6 ⟨rfl, hb6⟩
    have B6 := Lib.hid hb6
    clear hb6
    go_wp2_with fail
    go_ret
    exact ⟨rfl, B6.out⟩
  · rw [hf] at k15
    have HS := Lib.hid (hs.ints hf)
    clear hs hf
    have k17 := Lib.hid (f17_any A k folk n c said w HS.out)
    go_enter Try.func3, Try.ntmps3
    go_wp2_with fail
    refine k15.out.mono ?_
    rintro e w' ⟨rfl, rfl⟩
    go_wp2_with fail
    refine k17.out.mono ?_
    rintro e w1 ⟨rfl, hb⟩
    have B1 := Lib.hid (below_step hb (below_alloc w1 (.cells #[.int .i64 (regX k folk said), .int .i64 (regY k folk said)] 26)))
    have k18 := Lib.hid (f18_any A k folk n c said (w1.alloc (.cells #[.int .i64 (regX k folk said), .int .i64 (regY k folk said)] 26)) (HS.out.below B1.out))
    have F0 : Hid ((w1.alloc (.cells #[.int .i64 (regX k folk said), .int .i64 (regY k folk said)] 26)).cell? ⟨w1.heap.size, 0, none⟩ = some (.int .i64 (regX k folk said))) := cell_new _ _ _ _
    have F1 : Hid ((w1.alloc (.cells #[.int .i64 (regX k folk said), .int .i64 (regY k folk said)] 26)).cell? ⟨w1.heap.size, 1, none⟩ = some (.int .i64 (regY k folk said))) := cell_new _ _ _ _
    clear hb k17 k15
    generalize regX k folk said = x at *
    generalize regY k folk said = y at *
    generalize regErr k folk said = er at *
    go_wp2_with fail
    refine k18.out.mono ?_
    rintro e w2 ⟨rfl, hb⟩
    have q0 := (hb.cell (lt_of_cell F0.out)).trans F0.out
    have q1 := (hb.cell (lt_of_cell F1.out)).trans F1.out
    have B2 := Lib.hid (below_step B1.out hb)
    have hz : w1.heap.size < w2.heap.size := by have := hb.size; simp at this; omega
    clear hb
    have hqe : (er == er) = true := by simp
    go_wp2_with fail
    refine (f16_any _).mono ?_
    rintro e w6 ⟨rfl, hb6⟩
    have B6 := Lib.hid (below_step (below_step B2.out (below_alloc _ _)) hb6)
    clear hb6
    go_wp2_with fail
    go_ret
    exact ⟨rfl, B6.out⟩
end Go.Proofs.Ytfaenbaaadjbbaa
