/- Plain laws: the lists of what may have been lost. No condition. -/
import Derived.Test.YtfaenbaaadjbbaaPlain4
namespace Go.Proofs.Ytfaenbaaadjbbaa

theorem lev_bounds {one : Int} {g : Nat → Int} {M : Int} (h1 : 0 ≤ one) (h : ∀ i, 0 ≤ g i ∧ g i ≤ M) (j i : Nat) : -(j * one) ≤ lev one g j i ∧ lev one g j i ≤ M := by
  induction j generalizing i with
  | zero => have := h i; simp [lev]; omega
  | succ j ih =>
    have a := ih (2 * i)
    have b := ih (2 * i + 1)
    show _ ≤ min (min (lev one g j (2 * i)) (lev one g j (2 * i + 1))) ((lev one g j (2 * i) + lev one g j (2 * i + 1) - one) / 2) ∧ min (min (lev one g j (2 * i)) (lev one g j (2 * i + 1))) ((lev one g j (2 * i) + lev one g j (2 * i + 1) - one) / 2) ≤ M
    rw [Int.natCast_add, Int.natCast_one, Int.add_mul, Int.one_mul]
    have hm : 0 ≤ (j : Int) * one := Int.mul_nonneg (by omega) h1
    generalize (j : Int) * one = P at *
    omega
def levL (one : Int) (g : Nat → Int) (j n : Nat) : List Int := (List.range n).map (lev one g j)
theorem levL_len (one : Int) (g : Nat → Int) (j n : Nat) : (levL one g j n).length = n := by simp [levL]
theorem levL_get {one : Int} {g : Nat → Int} {j n i : Nat} (h : i < n) : (levL one g j n).getD i 0 = lev one g j i := by
  simp [levL, List.getD_eq_getElem?_getD, h]
theorem levL_succ (one : Int) (g : Nat → Int) (j n : Nat) : levL one g j n ++ [lev one g j n] = levL one g j (n + 1) := by simp [levL, List.range_succ]
/-- A goal times a number. -/
def sc (c : Int) (goal : List Int) (i : Nat) : Int := goal.getD i 0 * c
theorem half_pow {k j : Nat} (h : j < k) : 2 ^ (k - j) = 2 * 2 ^ (k - (j + 1)) := by
  have : k - j = (k - (j + 1)) + 1 := by omega
  rw [this, Nat.pow_succ, Nat.mul_comm]
end Go.Proofs.Ytfaenbaaadjbbaa
