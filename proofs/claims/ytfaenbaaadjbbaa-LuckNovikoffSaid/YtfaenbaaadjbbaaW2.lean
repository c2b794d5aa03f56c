/- Walks: gcd and ratio (both). -/
import Derived.Test.YtfaenbaaadjbbaaW1
import Derived.RegionTactic
import Derived.ChangeAlike

namespace Go.Proofs.Ytfaenbaaadjbbaa
open Go.RowKit

theorem nat_mod (a b : Nat) : ((a : Int) % (b : Int)) = ((a % b : Nat) : Int) := by simp
theorem gcd_step (a b : Nat) : Nat.gcd b (a % b) = Nat.gcd a b := by
  rw [Nat.gcd_comm b, ← Nat.gcd_rec, Nat.gcd_comm]
set_option maxHeartbeats 1000000 in
/-- luck.gcd -/
theorem f76_any (a b : Nat) (w : World) (ha : a ≤ 1000000000000000) (hb : b ≤ 1000000000000000) :
    Calls Try.prog 76 #[.int .i64 (a : Int), .int .i64 (b : Int)] w fun e w' => e = .returned (.int .i64 (Nat.gcd a b : Int)) ∧ ∃ m, w' = w.drewN m := by
  go_enter Try.func76, Try.ntmps76
  go_wp2
  go_loopw [0, 1] (fun x y wr => ∃ c d : Nat, c ≤ 1000000000000000 ∧ d ≤ 1000000000000000 ∧ x = .int .i64 (c : Int) ∧ y = .int .i64 (d : Int) ∧ Nat.gcd c d = Nat.gcd a b ∧ ∃ m, wr = w.drewN m) (fun _ y _ => (intOf y).toNat)
  case atStart => exact ⟨a, b, ha, hb, rfl, rfl, rfl, 0, rfl⟩
  case round =>
    obtain ⟨c, d, hc, hd, rfl, rfl, hg, m, rfl⟩ := hrel
    have HG := Lib.hid hg
    clear hg
    by_cases h0 : d = 0
    · subst h0
      go_wp2
      go_ret
      exact ⟨ret_int (by rw [← HG.out, Nat.gcd_zero_right]), _, rfl⟩
    · have hq : ((d : Int) != 0) = true := by simp; omega
      have hm : c % d < d := Nat.mod_lt _ (by omega)
      have hst := Lib.hid (gcd_step c d)
      have hmc := Lib.hid (nat_mod c d)
      generalize c % d = r at *
      go_wp2
      go_quiet (fail)
      go_wp2
      go_roundw
      case rel => exact ⟨d, r, by omega, by omega, rfl, by rw [hmc.out], by rw [hst.out]; exact HG.out, by first | exact ⟨_, rfl⟩ | exact ⟨_, World.drewN_drewN _ _ _⟩⟩
      case measure => rw [hmc.out]; simp [intOf]; omega
set_option maxHeartbeats 1000000 in
/-- dibberref01.Gcd -/
theorem f77_any (a b : Nat) (w : World) (ha : a ≤ 1000000000000000) (hb : b ≤ 1000000000000000) :
    Calls Try.prog 77 #[.int .i64 (a : Int), .int .i64 (b : Int)] w fun e w' => e = .returned (.int .i64 (Nat.gcd a b : Int)) ∧ ∃ m, w' = w.drewN m := by
  go_enter Try.func77, Try.ntmps77
  go_wp2
  go_loopw [0, 1] (fun x y wr => ∃ c d : Nat, c ≤ 1000000000000000 ∧ d ≤ 1000000000000000 ∧ x = .int .i64 (c : Int) ∧ y = .int .i64 (d : Int) ∧ Nat.gcd c d = Nat.gcd a b ∧ ∃ m, wr = w.drewN m) (fun _ y _ => (intOf y).toNat)
  case atStart => exact ⟨a, b, ha, hb, rfl, rfl, rfl, 0, rfl⟩
  case round =>
    obtain ⟨c, d, hc, hd, rfl, rfl, hg, m, rfl⟩ := hrel
    have HG := Lib.hid hg
    clear hg
    by_cases h0 : d = 0
    · subst h0
      go_wp2
      go_ret
      exact ⟨ret_int (by rw [← HG.out, Nat.gcd_zero_right]), _, rfl⟩
    · have hq : ((d : Int) != 0) = true := by simp; omega
      have hm : c % d < d := Nat.mod_lt _ (by omega)
      have hst := Lib.hid (gcd_step c d)
      have hmc := Lib.hid (nat_mod c d)
      generalize c % d = r at *
      go_wp2
      go_quiet (fail)
      go_wp2
      go_roundw
      case rel => exact ⟨d, r, by omega, by omega, rfl, by rw [hmc.out], by rw [hst.out]; exact HG.out, by first | exact ⟨_, rfl⟩ | exact ⟨_, World.drewN_drewN _ _ _⟩⟩
      case measure => rw [hmc.out]; simp [intOf]; omega
theorem nat_div (a b : Nat) : ((a : Int) / (b : Int)) = ((a / b : Nat) : Int) := by simp
theorem wrap_nat (a : Nat) (h : a ≤ 1000000000000000000) : wrap64 (a : Int) = (a : Int) := by unfold wrap64; omega
theorem wrap_div (a b : Nat) (h : a ≤ 1000000000000000000) : wrap64 ((a : Int) / (b : Int)) = (a : Int) / (b : Int) := by
  rw [nat_div]; exact wrap_nat _ (Nat.le_trans (Nat.div_le_self _ _) h)
/-- A ratio came back. -/
def RatOf (w : World) (a b : Nat) (e : Ending) (w' : World) : Prop := e = .returned (.agg #[.int .i64 (ratN a b : Int), .int .i64 (ratD a b : Int)]) ∧ Below w.heap.size w w'
set_option maxHeartbeats 1000000 in
/-- luck.ratio -/
theorem f52_any (a b : Nat) (w : World) (ha : a ≤ 1000000000000000) (hb : b ≤ 1000000000000000) (h0 : 0 < b) :
    Calls Try.prog 52 #[.int .i64 (a : Int), .int .i64 (b : Int)] w (RatOf w a b) := by
  have hg := gcd_pos' (a := a) h0
  have e1 : Hid (((a / Nat.gcd a b : Nat) : Int) = (ratN a b : Int)) := rfl
  have e2 : Hid (((b / Nat.gcd a b : Nat) : Int) = (ratD a b : Int)) := rfl
  have k76 := Lib.hid (fun w => f76_any a b w ha hb)
  have hgl := Nat.gcd_le_right a h0
  have d1 := Lib.hid (nat_div a (Nat.gcd a b))
  have d2 := Lib.hid (nat_div b (Nat.gcd a b))
  have c1 := Lib.hid (wrap_div a (Nat.gcd a b) (by omega))
  have c2 := Lib.hid (wrap_div b (Nat.gcd a b) (by omega))
  generalize Nat.gcd a b = g at *
  go_enter Try.func52, Try.ntmps52
  go_wp2_with fail
  refine (k76.out _).mono ?_
  rintro e w' ⟨rfl, m, rfl⟩
  go_wp2
  go_region
  go_wp2
  refine bodyPost_ret (v := .agg #[.int .i64 ((a : Int) / (g : Int)), .int .i64 ((b : Int) / (g : Int))]) (by simp [results, Try.results52, go_sem, c1.out, c2.out]) rfl ⟨by rw [d1.out, d2.out, e1.out, e2.out], ?_⟩
  exact (((below_drewN (below_alloc w _) _).setCell (by simp) _).setCell (by simp) _)
set_option maxHeartbeats 1000000 in
/-- dibberref05.ratio -/
theorem f53_any (a b : Nat) (w : World) (ha : a ≤ 1000000000000000) (hb : b ≤ 1000000000000000) (h0 : 0 < b) :
    Calls Try.prog 53 #[.int .i64 (a : Int), .int .i64 (b : Int)] w (RatOf w a b) := by
  have hg := gcd_pos' (a := a) h0
  have e1 : Hid (((a / Nat.gcd a b : Nat) : Int) = (ratN a b : Int)) := rfl
  have e2 : Hid (((b / Nat.gcd a b : Nat) : Int) = (ratD a b : Int)) := rfl
  have k77 := Lib.hid (fun w => f77_any a b w ha hb)
  have hgl := Nat.gcd_le_right a h0
  have d1 := Lib.hid (nat_div a (Nat.gcd a b))
  have d2 := Lib.hid (nat_div b (Nat.gcd a b))
  have c1 := Lib.hid (wrap_div a (Nat.gcd a b) (by omega))
  have c2 := Lib.hid (wrap_div b (Nat.gcd a b) (by omega))
  generalize Nat.gcd a b = g at *
  go_enter Try.func53, Try.ntmps53
  go_wp2_with fail
  refine (k77.out _).mono ?_
  rintro e w' ⟨rfl, m, rfl⟩
  go_wp2
  go_region
  go_wp2
  refine bodyPost_ret (v := .agg #[.int .i64 ((a : Int) / (g : Int)), .int .i64 ((b : Int) / (g : Int))]) (by simp [results, Try.results53, go_sem, c1.out, c2.out]) rfl ⟨by rw [d1.out, d2.out, e1.out, e2.out], ?_⟩
  exact (((below_drewN (below_alloc w _) _).setCell (by simp) _).setCell (by simp) _)
end Go.Proofs.Ytfaenbaaadjbbaa
