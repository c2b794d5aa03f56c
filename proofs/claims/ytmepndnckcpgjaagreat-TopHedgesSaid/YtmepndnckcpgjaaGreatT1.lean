/- Walks: turns of a round of 3 hours. -/
import Derived.Test.YtmepndnckcpgjaaGreatF2
namespace Go.Proofs.YtmepndnckcpgjaaGreat
open Go.RowKit
set_option maxRecDepth 100000 in
set_option maxHeartbeats 2000000 in
/-- (*plan).modulo -/
theorem f126_any (p : Nat) (b r m : Int) (w : World) (h : w.cell? ⟨p, 0, none⟩ = some (.int .i64 3)) (hr : b.tmod 3 = r) (hr2 : -2 ≤ r ∧ r ≤ 2) (hm : (r + 3).tmod 3 = m) (hm2 : 0 ≤ m ∧ m ≤ 2) :
    Calls Tryz.prog 126 #[.pointer (some ⟨p, 0, none⟩), .int .i64 b] w fun e w' => e = .returned (.int .i64 m) ∧ ∃ k, w' = w.drewN k := by
  have w1 : IntKind.i64.wrap r = r := IntWalk.i64_in _ (by omega)
  have w2 : IntKind.i64.wrap (r + 3) = r + 3 := IntWalk.i64_in _ (by omega)
  have w3 : IntKind.i64.wrap m = m := IntWalk.i64_in _ (by omega)
  go_enter Tryz.func126, Tryz.ntmps126
  go_wp2
  go_quiet (fail)
  go_wp2
  go_ret
  exact ⟨rfl, _, rfl⟩
def turnV (s m : Nat) : Nat := if m = 0 then s else if m = 1 then (s % 4) * 2 + s / 4 else (s % 2) * 4 + s / 2
set_option maxRecDepth 100000 in
set_option maxHeartbeats 8000000 in
/-- (*plan).turned -/
theorem f95_any (p : Nat) (s : Nat) (b r : Int) (m : Nat) (w : World) (hs : s < 8) (h : w.cell? ⟨p, 0, none⟩ = some (.int .i64 3)) (hr : b.tmod 3 = r) (hr2 : -2 ≤ r ∧ r ≤ 2) (hm : (r + 3).tmod 3 = (m : Int)) (hm2 : m ≤ 2) :
    Calls Tryz.prog 95 #[.pointer (some ⟨p, 0, none⟩), .int .u32 (s : Int), .int .i64 b] w fun e w' => e = .returned (.int .u32 (turnV s m : Int)) ∧ ∃ k, w' = w.drewN k := by
  have K := Lib.hid (f126_any p b r m w h hr hr2 hm (by omega))
  clear hr hr2 hm
  go_enter Tryz.func95, Tryz.ntmps95
  go_wp2_with fail
  refine K.out.mono ?_
  rintro e w1 ⟨rfl, k1, rfl⟩
  have hm3 : m = 0 ∨ m = 1 ∨ m = 2 := by omega
  have hs3 : s = 0 ∨ s = 1 ∨ s = 2 ∨ s = 3 ∨ s = 4 ∨ s = 5 ∨ s = 6 ∨ s = 7 := by omega
  clear K
  rcases hm3 with rfl | rfl | rfl <;> rcases hs3 with rfl | rfl | rfl | rfl | rfl | rfl | rfl | rfl
  all_goals
    go_wp2
    go_quiet (fail)
    go_wp2
    go_ret
    exact ⟨by rfl, by first | exact ⟨_, rfl⟩ | exact ⟨_, World.drewN_drewN _ _ _⟩⟩
end Go.Proofs.YtmepndnckcpgjaaGreat
