/- Walks: every, Sum (both). -/
import Derived.Test.YtpehhbiodmgjeaaW16
import Derived.Test.YtpehhbiodmgjeaaW18
import Derived.Test.YtpehhbiodmgjeaaBase4
namespace Go.Proofs.Ytpehhbiodmgjeaa
open Go.RowKit

/-- share.Sum$1 -/
theorem f57_any (x : Int) (w : World) : Calls Try.prog 57 #[.int .i64 x] w fun e w' => e = .returned (.bool (decide (-1000000 ≤ x))) ∧ w = w' := by
  go_enter Try.func57, Try.ntmps57
  go_wp2
  go_ret
  exact ⟨rfl, rfl⟩
/-- share.Sum$2 -/
theorem f58_any (x : Int) (w : World) : Calls Try.prog 58 #[.int .i64 x] w fun e w' => e = .returned (.bool (decide (x ≤ 1000000))) ∧ w = w' := by
  go_enter Try.func58, Try.ntmps58
  go_wp2
  go_ret
  exact ⟨rfl, rfl⟩

set_option maxHeartbeats 1000000 in
/-- share.every, with the two tests of Sum -/
theorem f56_any (x : Int) (g : Nat) (w : World) (h0 : w.cell? ⟨g, 0, none⟩ = some (.func (.func 57) #[] #[])) (h1 : w.cell? ⟨g, 1, none⟩ = some (.func (.func 58) #[] #[])) :
    Calls Try.prog 56 #[.int .i64 x, .slice (some ⟨g, 0, none⟩) 2 2] w fun e w' => e = .returned (.bool (!outC x)) ∧ w = w' := by
  have hc : Hid ((!outC x) = (decide (-1000000 ≤ x) && decide (x ≤ 1000000))) := by
    unfold outC Hid
    by_cases h1 : x < -1000000 <;> by_cases h2 : 1000000 < x <;> simp [h1, h2] <;> omega
  go_enter Try.func56, Try.ntmps56
  go_wp2
  go_loop [6, 9] (fun _ i => ∃ k : Nat, k ≤ 2 ∧ i = .int .i64 k ∧ (0 < k → -1000000 ≤ x) ∧ (1 < k → x ≤ 1000000)) (fun _ i => 2 - (intOf i).toNat)
  case atStart => exact ⟨0, by omega, rfl, fun h => absurd h (by omega), fun h => absurd h (by omega)⟩
  case round =>
    obtain ⟨k, hk, rfl, p0, p1⟩ := hrel
    have P0 := Lib.hid p0
    have P1 := Lib.hid p1
    clear p0 p1
    rcases (show k = 0 ∨ k = 1 ∨ k = 2 by omega) with rfl | rfl | rfl
    · by_cases hx : -1000000 ≤ x
      · go_wp2_with fail
        refine (f57_any x _).mono ?_
        rintro e w' ⟨rfl, rfl⟩
        go_wp2
        go_round
        case rel => exact ⟨1, by omega, rfl, fun _ => hx, fun h => absurd h (by omega)⟩
        case measure => simp [intOf]
      · have hf : Hid ((!outC x) = false) := by rw [hc.out]; simp [Hid, hx]
        have hq : decide (-1000000 ≤ x) = false := decide_eq_false hx
        go_wp2_with fail
        refine (f57_any x _).mono ?_
        rintro e w' ⟨rfl, rfl⟩
        go_wp2
        go_ret
        exact ⟨ret_bool hf.out.symm, rfl⟩
    · have hx := P0.out (by omega)
      by_cases hy : x ≤ 1000000
      · go_wp2_with fail
        refine (f58_any x _).mono ?_
        rintro e w' ⟨rfl, rfl⟩
        go_wp2
        go_round
        case rel => exact ⟨2, by omega, rfl, fun _ => hx, fun _ => hy⟩
        case measure => simp [intOf]
      · have hf : Hid ((!outC x) = false) := by rw [hc.out]; simp [Hid, hy]
        have hq : decide (x ≤ 1000000) = false := decide_eq_false hy
        go_wp2_with fail
        refine (f58_any x _).mono ?_
        rintro e w' ⟨rfl, rfl⟩
        go_wp2
        go_ret
        exact ⟨ret_bool hf.out.symm, rfl⟩
    · have hx := P0.out (by omega)
      have hy := P1.out (by omega)
      have hf : Hid ((!outC x) = true) := by rw [hc.out]; simp [Hid, hx, hy]
      go_wp2
      go_ret
      exact ⟨ret_bool hf.out.symm, rfl⟩
end Go.Proofs.Ytpehhbiodmgjeaa
