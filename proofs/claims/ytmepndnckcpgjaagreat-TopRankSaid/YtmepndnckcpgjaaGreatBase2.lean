/- More small laws on bits, as the walks spell them. No condition. -/
import Derived.Test.YtmepndnckcpgjaaGreatBase
namespace Go.Proofs.YtmepndnckcpgjaaGreat
open Go.RowKit

theorem cast_shr (s i : Nat) : ((s : Int) / 2 ^ i) = ((s / 2 ^ i : Nat) : Int) := by simp
theorem shr_bit (s i : Nat) : (((s : Int) / 2 ^ i).tmod 2 == 1) = s.testBit i := by
  rw [Nat.testBit_eq_decide_div_mod_eq, cast_shr]
  generalize s / 2 ^ i = t
  rw [Int.tmod_eq_emod_of_nonneg (by omega)]
  by_cases h : t % 2 = 1
  · simp [h]; omega
  · simp [h]; omega
theorem shr_and (s i : Nat) (h : s < 9223372036854775808) : bits .and .i64 ((s : Int) / 2 ^ i) 1 = if s.testBit i then 1 else 0 := by
  rw [cast_shr, show (1 : Int) = ((1 : Nat) : Int) from rfl, bits_and_nat _ _ (Nat.lt_of_le_of_lt (Nat.div_le_self _ _) h) (by omega), Nat.testBit_eq_decide_div_mod_eq]
  generalize s / 2 ^ i = t
  rw [Nat.and_one_is_mod]
  by_cases h : t % 2 = 1
  · simp [h]
  · simp [h]; omega
end Go.Proofs.YtmepndnckcpgjaaGreat
