/- Walks: ordered, Order, weighed, slices.Max. -/
import Derived.Test.YtmepndnckcpgjaaGreatW7
import Derived.Test.YtmepndnckcpgjaaGreatPlain2
import Derived.Test.YtmepndnckcpgjaaGreatBase2
namespace Go.Proofs.YtmepndnckcpgjaaGreat
open Go.RowKit

/-- (*costs).weighed$1 -/
theorem f87_any (x : Int) (w : World) : Calls Tryz.prog 51 #[.int .i64 x] w fun e w' => e = .returned (.bool (outW x)) ∧ w = w' := by
  unfold outW
  go_enter Tryz.func51, Tryz.ntmps51
  go_wp2
  all_goals go_ret
  all_goals simp_all
theorem enter87 (args : Array Value) (w : World) : (callFunc 51 args).run Tryz.prog w = .ok (.enter 51 args) w := by
  simp [go_sem]

/-- (*costs).weighed -/
theorem f65_any (p : Nat) (A B : Option Addr) (n len c m d : Nat) (ws : List Int) (w : World) (hp : Costs w p n A len c) (ho : Ints w B m ws) :
    Calls Tryz.prog 35 #[.pointer (some ⟨p, 0, none⟩), .slice B m d] w fun e w' => e = .returned (.bool (wOk n ws)) ∧ w = w' := by
  have k84 : Hid (Calls Tryz.prog 44 #[.slice B m d, .func (.func 51) #[] #[]] w fun e w' => e = .returned (.bool (ws.any outW)) ∧ w = w') :=
    f84_any B m d ws 51 #[] outW w ho enter87 fun k _ => f87_any _ _
  have hol := Lib.hid ho.len
  have hfin : Hid (wOk n ws = (decide (m = n) && !ws.any outW)) := by unfold wOk; rw [hol.out]; rfl
  obtain ⟨hp0, hp1⟩ := hp
  by_cases hm : m = n
  · subst hm
    go_enter Tryz.func35, Tryz.ntmps35
    go_wp2_with fail
    refine k84.out.mono ?_
    rintro e w' ⟨rfl, rfl⟩
    go_wp2
    go_ret
    exact ⟨ret_bool (by rw [hfin.out]; simp), rfl⟩
  · have hq : ((m : Int) == (n : Int)) = false := by simp; omega
    have hf2 : Hid (wOk n ws = false) := by rw [hfin.out]; simp [Hid, hm]
    clear hm
    go_enter Tryz.func35, Tryz.ntmps35
    go_wp2
    go_ret
    exact ⟨ret_bool hf2.out.symm, rfl⟩

set_option maxHeartbeats 1000000 in
/-- slices.Max -/
theorem f66_any (A : Option Addr) (len c : Nat) (xs : List Int) (w : World) (hs : Ints w A len xs) (hp : 0 < len) :
    Calls Tryz.prog 39 #[.slice A len c] w fun e w' => e = .returned (.int .i64 (high xs)) ∧ w = w' := by
  have hfin : Hid (high xs = highTo xs len) := by unfold high; rw [hs.len]; rfl
  have h1 : Hid (highTo xs 1 = xs.getD 0 0) := by simp [Hid, highTo, mx]
  have hsm := hs.small
  obtain ⟨b, off, rfl, hc⟩ := hs.ad hp
  have HC := Lib.hid hc
  have hc0 := hc 0 hp
  simp only [Nat.add_zero] at hc0
  clear hc
  go_enter Tryz.func39, Tryz.ntmps39
  go_wp2
  go_loop [3, 4] (fun t i => ∃ k : Nat, 1 ≤ k ∧ k ≤ len ∧ i = .int .i64 k ∧ t = .int .i64 (highTo xs k)) (fun _ i => len - (intOf i).toNat)
  case atStart => exact ⟨1, by omega, by omega, rfl, by rw [h1.out]; rfl⟩
  case round =>
    obtain ⟨k, hk1, hk, rfl, rfl⟩ := hrel
    by_cases hlt : k < len
    · have hck := HC.out k hlt
      go_wp2
      go_round
      case rel => exact ⟨k + 1, by omega, by omega, by go_num, rfl⟩
      case measure => simp [intOf]; omega
    · obtain rfl : k = len := by omega
      go_wp2
      go_ret
      exact ⟨ret_int hfin.out.symm, rfl⟩
end Go.Proofs.YtmepndnckcpgjaaGreat
