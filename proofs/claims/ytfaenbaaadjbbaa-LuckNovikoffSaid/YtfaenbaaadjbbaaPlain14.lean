/- Plain laws: halving: who was never wrong, and how often what is foretold is wrong. No condition. -/
import Derived.Test.YtfaenbaaadjbbaaPlain12
namespace Go.Proofs.Ytfaenbaaadjbbaa

/-- Of the first k foretellers, so many were never wrong before the night i. -/
def alTo (said : List (List Int)) (came : List Int) (i : Nat) : Nat → Nat := sumN fun f => if wr said came f i = 0 then 1 else 0
/-- And so many of them say 1. -/
def onTo (said : List (List Int)) (came : List Int) (i : Nat) : Nat → Nat := sumN fun f => if wr said came f i = 0 ∧ (said.getD i []).getD f 0 = 1 then 1 else 0
def halfF (said : List (List Int)) (came : List Int) (n i : Nat) : Int := if alTo said came i n < 2 * onTo said came i n then 1 else 0
theorem alTo_le (said : List (List Int)) (came : List Int) (i k : Nat) : alTo said came i k ≤ k := by
  induction k with
  | zero => exact Nat.le_refl _
  | succ k ih => show alTo said came i k + (if wr said came k i = 0 then 1 else 0) ≤ k + 1; split <;> omega
theorem onTo_le (said : List (List Int)) (came : List Int) (i k : Nat) : onTo said came i k ≤ alTo said came i k := by
  unfold onTo alTo
  refine sumN_le fun f _ => ?_
  by_cases h : wr said came f i = 0
  · rw [if_pos h]; split <;> omega
  · rw [if_neg h, if_neg (fun h2 => h h2.1)]; omega
theorem wr_step (said : List (List Int)) (came : List Int) (f i : Nat) : wr said came f (i + 1) = wr said came f i + if (said.getD i []).getD f 0 = came.getD i 0 then 0 else 1 := rfl
theorem al_one {said : List (List Int)} {came : List Int} {i : Nat} (h : came.getD i 0 = 1) (n : Nat) : alTo said came (i + 1) n = onTo said came i n := by
  unfold alTo onTo
  refine sumN_congr fun f _ => ?_
  rw [wr_step, h]
  generalize (said.getD i []).getD f 0 = x
  generalize wr said came f i = y
  by_cases h1 : x = 1
  · rw [if_pos h1]; simp [h1]
  · rw [if_neg h1, if_neg (by omega), if_neg (fun h2 => h1 h2.2)]
theorem al_zero {said : List (List Int)} {came : List Int} {i : Nat} (h : came.getD i 0 = 0) (n : Nat) (hb : ∀ f, f < n → (said.getD i []).getD f 0 = 0 ∨ (said.getD i []).getD f 0 = 1) : alTo said came (i + 1) n + onTo said came i n = alTo said came i n := by
  unfold alTo onTo
  rw [← sumN_add]
  refine sumN_congr fun f hf => ?_
  rw [wr_step, h]
  have hx := hb f hf
  generalize (said.getD i []).getD f 0 = x at *
  generalize wr said came f i = y
  rcases hx with rfl | rfl
  · simp
  · simp
/-- Something else came than was foretold, in the first k nights. -/
def missTo (told came : List Int) : Nat → Nat
  | 0 => 0
  | k + 1 => missTo told came k + if told.getD k 0 = came.getD k 0 then 0 else 1
theorem missTo_le (told came : List Int) (k : Nat) : missTo told came k ≤ k := by
  induction k with
  | zero => exact Nat.le_refl _
  | succ k ih => simp only [missTo]; split <;> omega
theorem al_down {said : List (List Int)} {came : List Int} {n i : Nat} (hb : ∀ f, f < n → (said.getD i []).getD f 0 = 0 ∨ (said.getD i []).getD f 0 = 1) (hc : came.getD i 0 = 0 ∨ came.getD i 0 = 1) :
    alTo said came (i + 1) n ≤ alTo said came i n ∧ (halfF said came n i ≠ came.getD i 0 → 2 * alTo said came (i + 1) n ≤ alTo said came i n) := by
  unfold halfF
  rcases hc with hc | hc
  · have h := al_zero hc n hb
    rw [hc]
    refine ⟨by omega, fun h1 => ?_⟩
    have : alTo said came i n < 2 * onTo said came i n := by
      rcases Nat.lt_or_ge (alTo said came i n) (2 * onTo said came i n) with h2 | h2
      · exact h2
      · rw [if_neg (by omega)] at h1; exact absurd rfl h1
    omega
  · have h := al_one hc n (said := said)
    have hle := onTo_le said came i n
    rw [hc, h]
    refine ⟨hle, fun h1 => ?_⟩
    rcases Nat.lt_or_ge (alTo said came i n) (2 * onTo said came i n) with h2 | h2
    · rw [if_pos h2] at h1; exact absurd rfl h1
    · exact h2
theorem half_potential {said : List (List Int)} {came told : List Int} {n : Nat} (k : Nat) (hb : ∀ i f, i < k → f < n → (said.getD i []).getD f 0 = 0 ∨ (said.getD i []).getD f 0 = 1) (hc : ∀ i, i < k → came.getD i 0 = 0 ∨ came.getD i 0 = 1)
    (ht : ∀ i, i < k → told.getD i 0 = halfF said came n i) : 2 ^ missTo told came k * alTo said came k n ≤ n := by
  induction k with
  | zero => show 2 ^ 0 * alTo said came 0 n ≤ n; have := alTo_le said came 0 n; omega
  | succ k ih =>
    have ih := ih (fun i f hi hf => hb i f (by omega) hf) (fun i hi => hc i (by omega)) (fun i hi => ht i (by omega))
    obtain ⟨h1, h2⟩ := al_down (n := n) (i := k) (fun f hf => hb k f (by omega) hf) (hc k (by omega))
    simp only [missTo]
    rw [ht k (by omega)]
    by_cases h : halfF said came n k = came.getD k 0
    · rw [if_pos h, Nat.add_zero]
      exact Nat.le_trans (Nat.mul_le_mul_left _ h1) ih
    · rw [if_neg h, Nat.pow_succ, Nat.mul_assoc]
      exact Nat.le_trans (Nat.mul_le_mul_left _ (h2 h)) ih
theorem al_pos {said : List (List Int)} {came : List Int} {n f k : Nat} (hf : f < n) (h : wr said came f k = 0) : 1 ≤ alTo said came k n := by
  induction n with
  | zero => omega
  | succ n ih =>
    show 1 ≤ alTo said came k n + (if wr said came n k = 0 then 1 else 0)
    rcases Nat.lt_or_ge f n with h1 | h1
    · have := ih h1; omega
    · obtain rfl : f = n := by omega
      rw [if_pos h]; omega
/-- Halving is wrong at most so often. -/
theorem half_law {said : List (List Int)} {came told : List Int} {n f k : Nat} (hf : f < n) (h : wr said came f k = 0) (hb : ∀ i f, i < k → f < n → (said.getD i []).getD f 0 = 0 ∨ (said.getD i []).getD f 0 = 1) (hc : ∀ i, i < k → came.getD i 0 = 0 ∨ came.getD i 0 = 1)
    (ht : ∀ i, i < k → told.getD i 0 = halfF said came n i) : 2 ^ missTo told came k ≤ n := by
  have h1 := half_potential k hb hc ht
  have h2 := al_pos hf h
  have h3 : 2 ^ missTo told came k * 1 ≤ 2 ^ missTo told came k * alTo said came k n := Nat.mul_le_mul_left _ h2
  omega
end Go.Proofs.Ytfaenbaaadjbbaa
