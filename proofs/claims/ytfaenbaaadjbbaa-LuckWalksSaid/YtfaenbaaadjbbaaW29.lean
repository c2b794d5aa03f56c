/- Law: LuckWalks. -/
import Derived.Test.YtfaenbaaadjbbaaW28
namespace Go.Proofs.Ytfaenbaaadjbbaa
open Go.RowKit

set_option maxRecDepth 100000 in
set_option maxHeartbeats 2000000 in
theorem f4_few (k folk x : Int) (A : Option Addr) (n c : Nat) (said : List (List Int)) (w : World) (hs : Came3 w A n said) (hf : fewB (said.map List.length) 0 = false) :
    Calls Try.prog 4 #[.int .i64 k, .int .i64 folk, .slice A n c, .int .u8 x] w fun e w' => e = .returned (.bool true) ∧ Below w.heap.size w w' := by
  have k15 := Lib.hid (f15_any A none c n 0 0 _ w hs.1.1 (by omega))
  rw [hf] at k15
  clear hs hf
  go_enter Try.func4, Try.ntmps4
  go_wp2_with fail
  refine k15.out.mono ?_
  rintro e w' ⟨rfl, rfl⟩
  go_wp2_with fail
  refine (f16_any _).mono ?_
  rintro e w6 ⟨rfl, hb6⟩
  have B6 := Lib.hid hb6
  clear hb6
  go_wp2_with fail
  go_ret
  exact ⟨rfl, B6.out⟩
/-- dibberlaw05.LuckWalks -/
theorem f4_any (k folk x : Int) (A : Option Addr) (n c : Nat) (said : List (List Int)) (w : World) (hs : Came3 w A n said) (hx : 0 ≤ x ∧ x ≤ 255) :
    Calls Try.prog 4 #[.int .i64 k, .int .i64 folk, .slice A n c, .int .u8 x] w fun e w' => e = .returned (.bool true) ∧ Below w.heap.size w w' := by
  cases hf : fewB (said.map List.length) 0
  · exact f4_few k folk x A n c said w hs hf
  · cases hok : saidOk k folk said
    · exact f4_no k folk x A n c said w hs hf hok
    · have hl := (hs.1.ints hf).len
      obtain ⟨m, f, rfl, rfl, h1, h2, h3, h4, h5, h6, h7⟩ := saidOk_facts hok
      obtain rfl : n = m := by omega
      exact f4_yes n f x A c said w hs hf hok hx
end Go.Proofs.Ytfaenbaaadjbbaa
