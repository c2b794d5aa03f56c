/- Walks: sized$1, slices.IndexFunc, slices.ContainsFunc, Cost. -/
import Derived.Test.YtmepndnckcpgjaaGreatBase
import Derived.Test.YtmepndnckcpgjaaGreatPlain
namespace Go.Proofs.YtmepndnckcpgjaaGreat
open Go.RowKit

/-- share.sized$1 -/
theorem f83_any (x : Int) (w : World) : Calls Tryz.prog 43 #[.int .i64 x] w fun e w' => e = .returned (.bool (outC x)) ∧ w = w' := by
  unfold outC
  go_enter Tryz.func43, Tryz.ntmps43
  go_wp2
  all_goals go_ret
  all_goals simp_all

theorem enter83 (args : Array Value) (w : World) : (callFunc 43 args).run Tryz.prog w = .ok (.enter 43 args) w := by
  simp [go_sem]

set_option maxHeartbeats 400000 in
/-- slices.IndexFunc at ints -/
theorem f94_any (A : Option Addr) (n c : Nat) (xs : List Int) (f : FuncId) (cap : Array Value) (p : Int → Bool) (w : World) (hs : Ints w A n xs)
    (hf : ∀ (args : Array Value) (w : World), (callFunc f args).run Tryz.prog w = .ok (.enter f args) w)
    (hp : ∀ k, k < n → Calls Tryz.prog f (#[.int .i64 (xs.getD k 0)] ++ cap) w fun e w' => e = .returned (.bool (p (xs.getD k 0))) ∧ w = w') :
    Calls Tryz.prog 63 #[.slice A n c, .func (.func f) #[] cap] w fun e w' => e = .returned (.int .i64 (firstIdx p xs)) ∧ w = w' := by
  have hb : n ≤ 17592186044415 := hs.small
  have HP := Lib.hid hp
  clear hp
  go_enter Tryz.func63, Tryz.ntmps63
  go_wp2
  go_loop [5, 8] (fun _ i => ∃ k : Nat, k ≤ n ∧ i = .int .i64 k ∧ (∀ j, j < k → p (xs.getD j 0) = false)) (fun _ i => n - (intOf i).toNat)
  case atStart => exact ⟨0, by omega, rfl, fun j hj => absurd hj (by omega)⟩
  case round =>
    obtain ⟨k, hk, rfl, hbef⟩ := hrel
    have HB := Lib.hid hbef
    clear hbef
    by_cases hlt : k < n
    · obtain ⟨b, off, rfl, hc⟩ := hs.at_ hlt
      have HK := Lib.hid (HP.out k hlt)
      go_wp2_with fail
      refine HK.out.mono ?_
      rintro e w' ⟨rfl, rfl⟩
      cases hpk : p (xs.getD k 0)
      · have HQ := Lib.hid hpk
        clear hpk
        go_wp2
        go_round
        case rel => exact ⟨k + 1, by omega, by go_num, fun j hj => by
          rcases Nat.lt_or_ge j k with h | h
          · exact HB.out j h
          · obtain rfl : j = k := by omega
            exact HQ.out⟩
        case measure => simp [intOf]; omega
      · have HQ := Lib.hid hpk
        clear hpk
        go_wp2
        go_ret
        exact ⟨ret_int (firstIdx_hit p xs k (by rw [hs.len]; omega) HQ.out HB.out).symm, rfl⟩
    · obtain rfl : k = n := by omega
      go_wp2
      go_ret
      exact ⟨ret_int (firstIdx_miss p xs (fun j hj => HB.out j (by rw [hs.len] at hj; exact hj))).symm, rfl⟩

/-- slices.ContainsFunc at ints -/
theorem f84_any (A : Option Addr) (n c : Nat) (xs : List Int) (f : FuncId) (cap : Array Value) (p : Int → Bool) (w : World) (hs : Ints w A n xs)
    (hf : ∀ (args : Array Value) (w : World), (callFunc f args).run Tryz.prog w = .ok (.enter f args) w)
    (hp : ∀ k, k < n → Calls Tryz.prog f (#[.int .i64 (xs.getD k 0)] ++ cap) w fun e w' => e = .returned (.bool (p (xs.getD k 0))) ∧ w = w') :
    Calls Tryz.prog 44 #[.slice A n c, .func (.func f) #[] cap] w fun e w' => e = .returned (.bool (xs.any p)) ∧ w = w' := by
  have HP := Lib.hid hp
  clear hp
  have H := Lib.hid (firstIdx_any p xs)
  go_enter Tryz.func44, Tryz.ntmps44
  go_wp2_with fail
  refine (f94_any A n c xs f cap p w hs hf HP.out).mono ?_
  rintro e w' ⟨rfl, rfl⟩
  go_wp2
  go_ret
  exact ⟨ret_bool H.out, rfl⟩
end Go.Proofs.YtmepndnckcpgjaaGreat
