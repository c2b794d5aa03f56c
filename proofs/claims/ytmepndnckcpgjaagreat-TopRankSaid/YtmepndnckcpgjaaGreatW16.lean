/- Walks: Check (both), submodular (the statement's). -/
import Derived.Test.YtmepndnckcpgjaaGreatW10
namespace Go.Proofs.YtmepndnckcpgjaaGreat
open Go.RowKit

def checkErr (n : Int) (xs : List Int) : Int := if costOk n xs then (if brkT xs then 0 else 10) else 2
def checkA (n : Int) (xs : List Int) : Int := if costOk n xs then (if brkT xs then brkA xs else 0) else 0
def checkB (n : Int) (xs : List Int) : Int := if costOk n xs then (if brkT xs then brkB xs else 0) else 0

set_option maxHeartbeats 1000000 in
/-- share.Check -/
theorem f24_any (A : Option Addr) (n : Int) (len c : Nat) (xs : List Int) (w : World) (hs : Ints w A len xs) :
    Calls Tryz.prog 8 #[.int .i64 n, .slice A len c] w fun e w' => e = .returned (.tuple #[.int .i64 (checkA n xs), .int .i64 (checkB n xs), .int .i64 (checkErr n xs)]) ∧ Below w.heap.size w w' := by
  cases hok : costOk n xs
  · have h1 : Hid (checkA n xs = 0) := by unfold checkA; rw [hok]; rfl
    have h2 : Hid (checkB n xs = 0) := by unfold checkB; rw [hok]; rfl
    have h3 : Hid (checkErr n xs = 2) := by unfold checkErr; rw [hok]; rfl
    have k52 := Lib.hid (f52_no A n len c xs w hs hok)
    rw [h1.out, h2.out, h3.out]
    clear hok
    go_enter Tryz.func8, Tryz.ntmps8
    go_wp2_with fail
    refine k52.out.mono ?_
    rintro e w' ⟨rfl, rfl⟩
    go_wp2
    refine bodyPost_ret (results_tmp3 rfl _ _ _) rfl ?_
    exact ⟨rfl, Below.refl _ _⟩
  · obtain ⟨m, rfl, h1, h6, hln, hbd, h0⟩ := costOk_facts hok
    have e1 : checkA m xs = if brkT xs then brkA xs else 0 := by unfold checkA; rw [hok]; rfl
    have e2 : checkB m xs = if brkT xs then brkB xs else 0 := by unfold checkB; rw [hok]; rfl
    have e3 : checkErr m xs = if brkT xs then 0 else 10 := by unfold checkErr; rw [hok]; rfl
    rw [e1, e2, e3]
    have k52 := Lib.hid (f52_yes A m len c xs w hs hok)
    have hc' := Costs.new w m A len c
    have hs' := hs.below (below_alloc w (.cells #[.int .i64 (m : Int), .slice A len c] 70))
    have k53 := Lib.hid (f53_any w.heap.size m A m len c xs _ hc' hs' h6 (by rw [← hs.len]; exact hln) hbd)
    clear hok h0 hln hc' hs' e1 e2 e3
    cases hT : brkT xs
    all_goals
      rw [hT] at k53
      clear hT
      go_enter Tryz.func8, Tryz.ntmps8
      go_wp2_with fail
      refine k52.out.mono ?_
      rintro e w' ⟨rfl, rfl⟩
      go_wp2_with fail
      refine k53.out.mono ?_
      rintro e w' ⟨rfl, md, rfl⟩
      go_wp2
      refine bodyPost_ret (results_tmp3 rfl _ _ _) rfl ?_
      exact ⟨rfl, below_drewN (below_alloc _ _) _⟩

def subm (n : Int) (xs : List Int) : Bool := checkErr n xs == 10
theorem subm_asked (n : Int) (xs : List Int) : subm n xs = decide (asked n xs = 0) := by
  unfold subm checkErr asked
  cases costOk n xs <;> cases brkT xs <;> rfl

end Go.Proofs.YtmepndnckcpgjaaGreat
