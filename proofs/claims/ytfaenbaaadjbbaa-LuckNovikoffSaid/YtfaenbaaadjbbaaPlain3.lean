/- Plain laws: goals, what may have been lost before, guesses and losses. No condition. -/
import Derived.Test.YtfaenbaaadjbbaaPlain2
namespace Go.Proofs.Ytfaenbaaadjbbaa

def goalOk (k : Int) (goal : List Int) : Bool := decide (1 ≤ k ∧ k ≤ 10 ∧ goal.length = 2 ^ k.toNat) && goal.all fun g => decide (0 ≤ g ∧ g ≤ k * 60)
/-- After j nights less: what may have been lost before them, the i-th beginning. -/
def lev (one : Int) (g : Nat → Int) : Nat → Nat → Int
  | 0, i => g i
  | j + 1, i => min (min (lev one g j (2 * i)) (lev one g j (2 * i + 1))) ((lev one g j (2 * i) + lev one g j (2 * i + 1) - one) / 2)
/-- In sixtieths times 2 ^ k. -/
def levG (k : Nat) (goal : List Int) : Nat → Nat → Int := lev (60 * 2 ^ k) fun i => goal.getD i 0 * 2 ^ k
def canB (k : Nat) (goal : List Int) : Bool := decide (0 ≤ levG k goal k 0)

theorem lev_dvd (k : Nat) (goal : List Int) (j i : Nat) (hj : j ≤ k) : (2 : Int) ^ (k - j) ∣ levG k goal j i := by
  induction j generalizing i with
  | zero => exact ⟨goal.getD i 0, by unfold levG lev; rw [Int.mul_comm]; rfl⟩
  | succ j ih =>
    obtain ⟨a, ha⟩ := ih (2 * i) (by omega)
    obtain ⟨b, hb⟩ := ih (2 * i + 1) (by omega)
    have e : (2 : Int) ^ (k - j) = 2 * 2 ^ (k - (j + 1)) := by
      have : k - j = (k - (j + 1)) + 1 := by omega
      rw [this, Int.pow_succ, Int.mul_comm]
    have hone : (60 * 2 ^ k : Int) = 2 * (2 ^ (k - (j + 1)) * (60 * 2 ^ j)) := by
      have : k = (k - (j + 1)) + 1 + j := by omega
      conv => lhs; rw [this]
      rw [Int.pow_add, Int.pow_add]
      have : (2 : Int) ^ 1 = 2 := rfl
      rw [this]; ac_rfl
    show _ ∣ min (min (levG k goal j (2 * i)) (levG k goal j (2 * i + 1))) ((levG k goal j (2 * i) + levG k goal j (2 * i + 1) - 60 * 2 ^ k) / 2)
    rw [ha, hb, e, hone]
    generalize (2 : Int) ^ (k - (j + 1)) = p
    generalize (2 : Int) ^ j = q
    have h3 : (2 * p * a + 2 * p * b - 2 * (p * (60 * q))) / 2 = p * (a + b - 60 * q) := by
      have : 2 * p * a + 2 * p * b - 2 * (p * (60 * q)) = 2 * (p * (a + b - 60 * q)) := by
        rw [Int.mul_sub, Int.mul_add, Int.mul_sub, Int.mul_add]
        ac_rfl
      rw [this]
      exact Int.mul_ediv_cancel_left _ (by decide)
    rw [h3]
    have d1 : p ∣ 2 * p * a := ⟨2 * a, by ac_rfl⟩
    have d2 : p ∣ 2 * p * b := ⟨2 * b, by ac_rfl⟩
    have d3 : p ∣ p * (a + b - 60 * q) := ⟨_, rfl⟩
    rcases Int.min_def (min (2 * p * a) (2 * p * b)) (p * (a + b - 60 * q)) with h
    rw [h]
    split
    · rw [Int.min_def]; split
      · exact d1
      · exact d2
    · exact d3
theorem lev_even (k : Nat) (goal : List Int) (j i : Nat) (hj : j < k) : ∃ m, levG k goal j (2 * i) + levG k goal j (2 * i + 1) - 60 * 2 ^ k = 2 * m := by
  obtain ⟨a, ha⟩ := lev_dvd k goal j (2 * i) (by omega)
  obtain ⟨b, hb⟩ := lev_dvd k goal j (2 * i + 1) (by omega)
  have e : (2 : Int) ^ (k - j) = 2 * 2 ^ (k - (j + 1)) := by
    have : k - j = (k - (j + 1)) + 1 := by omega
    rw [this, Int.pow_succ, Int.mul_comm]
  refine ⟨2 ^ (k - (j + 1)) * a + 2 ^ (k - (j + 1)) * b - 30 * 2 ^ k, ?_⟩
  rw [ha, hb, e]
  generalize (2 : Int) ^ (k - (j + 1)) = p
  generalize (2 : Int) ^ k = q
  rw [Int.mul_assoc, Int.mul_assoc]
  generalize p * a = x
  generalize p * b = y
  omega
/-- The program counts with halves of halves for all nights that there can be. -/
theorem lev_scale (k : Nat) (goal : List Int) (hk : k ≤ 10) (j i : Nat) (hj : j ≤ k) : lev 122880 (fun i => goal.getD i 0 * 2048) j i = 2 ^ (11 - k) * levG k goal j i := by
  have hc : (2 : Int) ^ (11 - k) * 2 ^ k = 2048 := by
    rw [← Int.pow_add]
    have : 11 - k + k = 11 := by omega
    rw [this]; rfl
  induction j generalizing i with
  | zero => show goal.getD i 0 * 2048 = 2 ^ (11 - k) * (goal.getD i 0 * 2 ^ k); rw [← hc]; ac_rfl
  | succ j ih =>
    obtain ⟨m, hm⟩ := lev_even k goal j i (by omega)
    show min (min (lev 122880 _ j (2 * i)) (lev 122880 _ j (2 * i + 1))) ((lev 122880 _ j (2 * i) + lev 122880 _ j (2 * i + 1) - 122880) / 2) =
      2 ^ (11 - k) * min (min (levG k goal j (2 * i)) (levG k goal j (2 * i + 1))) ((levG k goal j (2 * i) + levG k goal j (2 * i + 1) - 60 * 2 ^ k) / 2)
    rw [ih (2 * i) (by omega), ih (2 * i + 1) (by omega), hm]
    have h122 : (122880 : Int) = 2 ^ (11 - k) * (60 * 2 ^ k) := by
      have : (2 : Int) ^ (11 - k) * (60 * 2 ^ k) = 60 * (2 ^ (11 - k) * 2 ^ k) := by ac_rfl
      rw [this, hc]; rfl
    rw [h122, ← Int.mul_add, ← Int.mul_sub, hm]
    have hp : (0 : Int) < 2 ^ (11 - k) := Int.pow_pos (by decide)
    generalize (2 : Int) ^ (11 - k) = c at *
    generalize levG k goal j (2 * i) = a
    generalize levG k goal j (2 * i + 1) = b
    have h1 : c * (2 * m) / 2 = c * m := by
      have : c * (2 * m) = 2 * (c * m) := by ac_rfl
      rw [this]; exact Int.mul_ediv_cancel_left _ (by decide)
    have h2 : 2 * m / 2 = m := Int.mul_ediv_cancel_left _ (by decide)
    rw [h1, h2]
    have key : ∀ x y : Int, min (c * x) (c * y) = c * min x y := by
      intro x y
      rw [Int.min_def, Int.min_def]
      by_cases h : x ≤ y
      · rw [if_pos h, if_pos (Int.mul_le_mul_of_nonneg_left h (by omega))]
      · rw [if_neg h, if_neg]
        intro h3
        exact h (Int.le_of_mul_le_mul_left h3 hp)
    rw [key, key]
theorem lev_sign (k : Nat) (goal : List Int) (hk : k ≤ 10) : decide (lev 122880 (fun i => goal.getD i 0 * 2048) k 0 < 0) = !canB k goal := by
  rw [lev_scale k goal hk k 0 (Nat.le_refl _)]
  have hp : (0 : Int) < 2 ^ (11 - k) := Int.pow_pos (by decide)
  unfold canB
  generalize (2 : Int) ^ (11 - k) = c at *
  generalize levG k goal k 0 = x
  by_cases h : 0 ≤ x
  · have : ¬ c * x < 0 := by have := Int.mul_nonneg (by omega : 0 ≤ c) h; omega
    simp [h, this]
  · have : c * x < 0 := Int.mul_neg_of_pos_of_neg hp (by omega)
    simp [h, this]
/-- How the specification halves. -/
theorem lev_ref (k : Nat) (goal : List Int) (j i : Nat) (hj : j < k) :
    levG k goal (j + 1) i = if 60 * 2 ^ k < levG k goal j (2 * i) - levG k goal j (2 * i + 1) then levG k goal j (2 * i + 1)
      else if 60 * 2 ^ k < levG k goal j (2 * i + 1) - levG k goal j (2 * i) then levG k goal j (2 * i)
      else (levG k goal j (2 * i) + levG k goal j (2 * i + 1) - 60 * 2 ^ k).tdiv 2 := by
  obtain ⟨m, hm⟩ := lev_even k goal j i hj
  show min (min (levG k goal j (2 * i)) (levG k goal j (2 * i + 1))) ((levG k goal j (2 * i) + levG k goal j (2 * i + 1) - 60 * 2 ^ k) / 2) = _
  rw [hm]
  have h1 : (2 * m).tdiv 2 = m := Int.mul_tdiv_cancel_left _ (by decide)
  have h2 : 2 * m / 2 = m := Int.mul_ediv_cancel_left _ (by decide)
  have hp : (0 : Int) < 2 ^ k := Int.pow_pos (by decide)
  rw [h1, h2]
  generalize (2 : Int) ^ k = p at *
  generalize levG k goal j (2 * i) = a at *
  generalize levG k goal j (2 * i + 1) = b at *
  by_cases c1 : 60 * p < a - b
  · rw [if_pos c1]; omega
  · rw [if_neg c1]
    by_cases c2 : 60 * p < b - a
    · rw [if_pos c2]; omega
    · rw [if_neg c2]; omega
end Go.Proofs.Ytfaenbaaadjbbaa
