/- What weights promise: (4/3)^m is at most n 2^b. -/
import Derived.Test.YtfaenbaaadjbbaaW62
namespace Go.Proofs.Ytfaenbaaadjbbaa
open Go.RowKit

/-- All weights before the night i. -/
def pot (said : List (List Int)) (came : List Int) (i : Nat) : Nat → Int
  | 0 => 0
  | f + 1 => pot said came i f + ((2 ^ (200 - wr said came f i) : Nat) : Int)
theorem halfSum_pos (ss ws : List Int) (x : Int) (k : Nat) : 0 ≤ halfSum ss ws x k := by
  induction k with
  | zero => exact Int.le_refl _
  | succ k ih =>
    simp only [halfSum]
    have h := Int.natCast_nonneg (2 ^ (200 - (ws.getD k 0).toNat))
    generalize ((2 ^ (200 - (ws.getD k 0).toNat) : Nat) : Int) = P at *
    split <;> omega
theorem pot_split {said : List (List Int)} {came : List Int} {i N : Nat} {x y : Int} (hxy : (x = 0 ∧ y = 1) ∨ (x = 1 ∧ y = 0)) (n : Nat) (hn : n ≤ N) (hb : ∀ f, f < n → (said.getD i []).getD f 0 = 0 ∨ (said.getD i []).getD f 0 = 1) :
    pot said came i n = halfSum (said.getD i []) (wrL said came N i) x n + halfSum (said.getD i []) (wrL said came N i) y n := by
  induction n with
  | zero => rfl
  | succ n ih =>
    have ih := ih (by omega) fun f hf => hb f (by omega)
    have h1 := hb n (by omega)
    simp only [pot, halfSum]
    rw [wrL_get (by omega), Int.toNat_natCast, ih]
    generalize ((2 ^ (200 - wr said came n i) : Nat) : Int) = P
    rcases hxy with ⟨rfl, rfl⟩ | ⟨rfl, rfl⟩ <;> rcases h1 with h1 | h1 <;> rw [h1] <;> simp <;> omega
theorem pot_next {said : List (List Int)} {came : List Int} {i N : Nat} {x y : Int} (hi : i < 200) (hx : came.getD i 0 = x) (hxy : (x = 0 ∧ y = 1) ∨ (x = 1 ∧ y = 0)) (n : Nat) (hn : n ≤ N) (hb : ∀ f, f < n → (said.getD i []).getD f 0 = 0 ∨ (said.getD i []).getD f 0 = 1) :
    2 * pot said came (i + 1) n = 2 * halfSum (said.getD i []) (wrL said came N i) x n + halfSum (said.getD i []) (wrL said came N i) y n := by
  induction n with
  | zero => rfl
  | succ n ih =>
    have ih := ih (by omega) fun f hf => hb f (by omega)
    have h1 := hb n (by omega)
    have hw := wr_le said came n i
    simp only [pot, halfSum, wr_step]
    rw [wrL_get (by omega), Int.toNat_natCast, Int.mul_add, ih, hx]
    by_cases h : (said.getD i []).getD n 0 = x
    · have hy : ¬ (said.getD i []).getD n 0 = y := by omega
      rw [if_pos h, if_pos h, if_neg hy, Nat.add_zero]; omega
    · have hy : (said.getD i []).getD n 0 = y := by omega
      rw [if_neg h, if_neg h, if_pos hy]
      have e : 2 ^ (200 - wr said came n i) = 2 ^ (200 - (wr said came n i + 1)) * 2 := by
        rw [← Nat.pow_succ]; congr 1; omega
      rw [e, Int.natCast_mul]; omega
theorem pot_down {said : List (List Int)} {came : List Int} {i n : Nat} (hn0 : 0 < n) (hi : i < 200) (hl : (said.getD i []).length = n) (hb : ∀ f, f < n → (said.getD i []).getD f 0 = 0 ∨ (said.getD i []).getD f 0 = 1) (hc : came.getD i 0 = 0 ∨ came.getD i 0 = 1) :
    pot said came (i + 1) n ≤ pot said came i n ∧ (weighF said came n i ≠ came.getD i 0 → 4 * pot said came (i + 1) n ≤ 3 * pot said came i n) := by
  have hwe : weighF said came n i = if halfSum (said.getD i []) (wrL said came n i) 0 n < halfSum (said.getD i []) (wrL said came n i) 1 n then 1 else 0 :=
    weighs_half hl hn0 (wrL_len _ _ _ _) hb fun j => by
      by_cases hj : j < n
      · rw [wrL_get hj]; have := wr_le said came j i; omega
      · have : (wrL said came n i).getD j 0 = 0 := by rw [List.getD_eq_getElem?_getD, List.getElem?_eq_none (by rw [wrL_len]; omega)]; rfl
        rw [this]; omega
  have p0 := halfSum_pos (said.getD i []) (wrL said came n i) 0 n
  have p1 := halfSum_pos (said.getD i []) (wrL said came n i) 1 n
  rcases hc with hc | hc
  · have h1 := pot_split (said := said) (came := came) (i := i) (N := n) (x := 0) (y := 1) (.inl ⟨rfl, rfl⟩) n (Nat.le_refl _) hb
    have h2 := pot_next (said := said) (N := n) (y := 1) hi hc (.inl ⟨rfl, rfl⟩) n (Nat.le_refl _) hb
    rw [hwe, hc]
    refine ⟨by omega, fun h => ?_⟩
    split at h
    · omega
    · exact absurd rfl h
  · have h1 := pot_split (said := said) (came := came) (i := i) (N := n) (x := 1) (y := 0) (.inr ⟨rfl, rfl⟩) n (Nat.le_refl _) hb
    have h2 := pot_next (said := said) (N := n) (y := 0) hi hc (.inr ⟨rfl, rfl⟩) n (Nat.le_refl _) hb
    rw [hwe, hc]
    refine ⟨by omega, fun h => ?_⟩
    split at h
    · exact absurd rfl h
    · omega
theorem pot_zero (said : List (List Int)) (came : List Int) (n : Nat) : pot said came 0 n = (n : Int) * ((2 ^ 200 : Nat) : Int) := by
  induction n with
  | zero => simp [pot]
  | succ n ih =>
    have e : pot said came 0 (n + 1) = pot said came 0 n + ((2 ^ (200 - 0) : Nat) : Int) := rfl
    rw [e, ih, Nat.sub_zero]
    generalize ((2 ^ 200 : Nat) : Int) = P
    rw [Int.natCast_succ, Int.add_mul, Int.one_mul]
theorem pot_nn (said : List (List Int)) (came : List Int) (i n : Nat) : 0 ≤ pot said came i n := by
  induction n with
  | zero => exact Int.le_refl _
  | succ n ih =>
    simp only [pot]
    exact Int.add_nonneg ih (Int.natCast_nonneg _)
theorem pot_ge {said : List (List Int)} {came : List Int} {i f n : Nat} (hf : f < n) : ((2 ^ (200 - wr said came f i) : Nat) : Int) ≤ pot said came i n := by
  induction n with
  | zero => omega
  | succ n ih =>
    simp only [pot]
    rcases Nat.lt_or_ge f n with h | h
    · have := ih h
      have h2 := Int.natCast_nonneg (2 ^ (200 - wr said came n i))
      generalize ((2 ^ (200 - wr said came n i) : Nat) : Int) = P at *
      generalize ((2 ^ (200 - wr said came f i) : Nat) : Int) = Q at *
      omega
    · obtain rfl : f = n := by omega
      have := pot_nn said came i f
      generalize ((2 ^ (200 - wr said came f i) : Nat) : Int) = Q at *
      omega
theorem pot_law {said : List (List Int)} {came told : List Int} {n : Nat} (hn0 : 0 < n) (k : Nat) (hk : k ≤ 200) (hb : ∀ i, i < k → (said.getD i []).length = n ∧ ∀ f, f < n → (said.getD i []).getD f 0 = 0 ∨ (said.getD i []).getD f 0 = 1) (hc : ∀ i, i < k → came.getD i 0 = 0 ∨ came.getD i 0 = 1)
    (ht : ∀ i, i < k → told.getD i 0 = weighF said came n i) : ((4 ^ missTo told came k : Nat) : Int) * pot said came k n ≤ ((3 ^ missTo told came k : Nat) : Int) * pot said came 0 n := by
  induction k with
  | zero => exact Int.le_refl _
  | succ k ih =>
    have ih := ih (by omega) (fun i hi => hb i (by omega)) (fun i hi => hc i (by omega)) (fun i hi => ht i (by omega))
    obtain ⟨h1, h2⟩ := pot_down (n := n) (i := k) hn0 (by omega) (hb k (by omega)).1 (hb k (by omega)).2 (hc k (by omega))
    simp only [missTo]
    rw [ht k (by omega)]
    by_cases h : weighF said came n k = came.getD k 0
    · rw [if_pos h, Nat.add_zero]
      exact Int.le_trans (Int.mul_le_mul_of_nonneg_left h1 (Int.natCast_nonneg _)) ih
    · rw [if_neg h, Nat.pow_succ, Nat.pow_succ, Int.natCast_mul, Int.natCast_mul]
      have h3 := Int.mul_le_mul_of_nonneg_left (h2 h) (Int.natCast_nonneg (4 ^ missTo told came k))
      have e1 : ((4 ^ missTo told came k : Nat) : Int) * ((4 : Nat) : Int) * pot said came (k + 1) n = ((4 ^ missTo told came k : Nat) : Int) * (4 * pot said came (k + 1) n) := by rw [Int.mul_assoc]; rfl
      have e2 : ((4 ^ missTo told came k : Nat) : Int) * (3 * pot said came k n) = 3 * (((4 ^ missTo told came k : Nat) : Int) * pot said came k n) := by ac_rfl
      have e3 : ((3 ^ missTo told came k : Nat) : Int) * ((3 : Nat) : Int) * pot said came 0 n = 3 * (((3 ^ missTo told came k : Nat) : Int) * pot said came 0 n) := by
        rw [Int.mul_right_comm, Int.mul_comm]; rfl
      rw [e1, e3]
      rw [e2] at h3
      omega
/-- The promise. -/
theorem weights_law {said : List (List Int)} {came told : List Int} {n f : Nat} (hf : f < n) (k : Nat) (hk : k ≤ 200) (hb : ∀ i, i < k → (said.getD i []).length = n ∧ ∀ f, f < n → (said.getD i []).getD f 0 = 0 ∨ (said.getD i []).getD f 0 = 1) (hc : ∀ i, i < k → came.getD i 0 = 0 ∨ came.getD i 0 = 1)
    (ht : ∀ i, i < k → told.getD i 0 = weighF said came n i) : 4 ^ missTo told came k ≤ n * 2 ^ wr said came f k * 3 ^ missTo told came k := by
  have h1 := pot_law (by omega) k hk hb hc ht
  rw [pot_zero] at h1
  have h2 := Int.mul_le_mul_of_nonneg_left (pot_ge (said := said) (came := came) (i := k) hf) (Int.natCast_nonneg (4 ^ missTo told came k))
  have h3 := Int.le_trans h2 h1
  have hw := wr_le said came f k
  generalize missTo told came k = m at *
  generalize wr said came f k = b at *
  rw [← Int.natCast_mul, ← Int.natCast_mul, ← Int.natCast_mul] at h3
  have h4 : 4 ^ m * 2 ^ (200 - b) ≤ 3 ^ m * (n * 2 ^ 200) := by exact_mod_cast h3
  rw [two_split 200 b (by omega)] at h4
  have e : 3 ^ m * (n * (2 ^ b * 2 ^ (200 - b))) = n * 2 ^ b * 3 ^ m * 2 ^ (200 - b) := by ac_rfl
  rw [e] at h4
  exact Nat.le_of_mul_le_mul_right h4 (Nat.pow_pos (by omega))
end Go.Proofs.Ytfaenbaaadjbbaa
