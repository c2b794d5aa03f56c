/- Plain laws: powers by squares. No condition. -/
import Derived.Test.YtfaenbaaadjbbaaPlain8
namespace Go.Proofs.Ytfaenbaaadjbbaa

theorem exp_odd (e j : Nat) (h : e / 2 ^ j % 2 = 1) : 2 ^ (e % 2 ^ j) * 2 ^ (2 ^ j) = 2 ^ (e % 2 ^ (j + 1)) := by
  rw [← Nat.pow_add, Nat.mod_pow_succ, h, Nat.mul_one]
theorem exp_even (e j : Nat) (h : e / 2 ^ j % 2 = 0) : e % 2 ^ (j + 1) = e % 2 ^ j := by
  rw [Nat.mod_pow_succ, h, Nat.mul_zero, Nat.add_zero]
theorem exp_square (j : Nat) : 2 ^ (2 ^ j) * 2 ^ (2 ^ j) = 2 ^ (2 ^ (j + 1)) := by
  rw [← Nat.pow_add, Nat.pow_succ]; congr 1; omega
theorem exp_half (e j : Nat) : e / 2 ^ j / 2 = e / 2 ^ (j + 1) := by rw [Nat.div_div_eq_div_mul, Nat.pow_succ]
theorem exp_done (e j : Nat) (h : e / 2 ^ j = 0) : e % 2 ^ j = e := by
  have := Nat.div_add_mod e (2 ^ j)
  rw [h, Nat.mul_zero, Nat.zero_add] at this
  exact this
theorem exp_bound (e j : Nat) (he : e < 1000) (h : 0 < e / 2 ^ j) : j ≤ 9 := by
  rcases Nat.lt_or_ge j 10 with h1 | h1
  · omega
  · have : 2 ^ 10 ≤ 2 ^ j := Nat.pow_le_pow_right (by omega) h1
    have h2 : e / 2 ^ j = 0 := Nat.div_eq_of_lt (by omega)
    omega
theorem pow_lt_Wk (k n : Nat) (h : n < 32 * k) : 2 ^ n < W32 ^ k := by
  have e : W32 = 2 ^ 32 := by decide
  rw [e, ← Nat.pow_mul]
  exact Nat.pow_lt_pow_right (by omega) h
theorem pow_lt_W {n : Nat} (h : n ≤ 120000) : 2 ^ n < W32 ^ 4000 := pow_lt_Wk 4000 n (by omega)
theorem pow9 (j : Nat) (h : j ≤ 9) : 2 ^ j ≤ 512 := Nat.le_trans (Nat.pow_le_pow_right (by omega) h) (by decide)
end Go.Proofs.Ytfaenbaaadjbbaa
