/- Plain laws: records, how often foretellers were wrong, what weights say. No condition. -/
import Derived.Test.YtfaenbaaadjbbaaPlain9
namespace Go.Proofs.Ytfaenbaaadjbbaa

def recErr (n : Int) (said : List (List Int)) (came : List Int) : Int :=
  if 1 ≤ n ∧ n ≤ 20 then (if said.length ≤ 200 then (if (said.all (bitsB n) && bitsB said.length came) = true then 0 else 2) else 3) else 2
/-- How often a foreteller was wrong before the night i. -/
def wr (said : List (List Int)) (came : List Int) (f : Nat) : Nat → Nat
  | 0 => 0
  | i + 1 => wr said came f i + if (said.getD i []).getD f 0 = came.getD i 0 then 0 else 1
theorem wr_le (said : List (List Int)) (came : List Int) (f i : Nat) : wr said came f i ≤ i := by
  induction i with
  | zero => exact Nat.le_refl _
  | succ i ih => simp only [wr]; split <;> omega
theorem wr_mono (said : List (List Int)) (came : List Int) (f : Nat) {i j : Nat} (h : i ≤ j) : wr said came f i ≤ wr said came f j := by
  induction j with
  | zero => obtain rfl : i = 0 := by omega
            exact Nat.le_refl _
  | succ j ih =>
    rcases Nat.lt_or_ge i (j + 1) with h1 | h1
    · have := ih (by omega)
      simp only [wr]; omega
    · obtain rfl : i = j + 1 := by omega
      exact Nat.le_refl _
def wrL (said : List (List Int)) (came : List Int) (n i : Nat) : List Int := (List.range n).map fun f => (wr said came f i : Int)
theorem wrL_len (said : List (List Int)) (came : List Int) (n i : Nat) : (wrL said came n i).length = n := by simp [wrL]
theorem wrL_get {said : List (List Int)} {came : List Int} {n i f : Nat} (h : f < n) : (wrL said came n i).getD f 0 = (wr said came f i : Int) := by
  simp [wrL, List.getD_eq_getElem?_getD, h]
theorem wrL_zero (said : List (List Int)) (came : List Int) (n : Nat) : wrL said came n 0 = List.replicate n 0 := by
  apply List.ext_getElem
  · simp [wrL]
  · intro i h1 h2; simp [wrL, wr]
/-- The greatest of some numbers, of the first k. -/
def maxTo (xs : List Int) : Nat → Int
  | 0 => xs.getD 0 0
  | k + 1 => max (maxTo xs k) (xs.getD k 0)
theorem maxTo_ge (xs : List Int) (k j : Nat) (h : j < k) : xs.getD j 0 ≤ maxTo xs k := by
  induction k with
  | zero => omega
  | succ k ih =>
    simp only [maxTo]
    rcases Nat.lt_or_ge j k with h1 | h1
    · have := ih h1; omega
    · obtain rfl : j = k := by omega
      omega
theorem maxTo_le (xs : List Int) (M : Int) (h0 : xs.getD 0 0 ≤ M) (k : Nat) (h : ∀ j, j < k → xs.getD j 0 ≤ M) : maxTo xs k ≤ M := by
  induction k with
  | zero => exact h0
  | succ k ih =>
    simp only [maxTo]
    have := ih fun j hj => h j (by omega)
    have := h k (by omega)
    omega
def maxL (xs : List Int) : Int := maxTo xs xs.length
/-- What is weighed against it: for each of the first j, 2 to the power of how much less often than M they were wrong. -/
def diffTo (ss : List Int) (ws : List Int) (M : Int) : Nat → Int
  | 0 => 0
  | j + 1 => if ss.getD j 0 = 1 then diffTo ss ws M j + ((2 ^ (M - ws.getD j 0).toNat : Nat) : Int) else diffTo ss ws M j - ((2 ^ (M - ws.getD j 0).toNat : Nat) : Int)
def weighs (ss ws : List Int) : Int := if 0 < diffTo ss ws (maxL ws) ss.length then 1 else 0
theorem diffTo_in (ss ws : List Int) (M : Int) (E : Nat) (h : ∀ j, (M - ws.getD j 0).toNat ≤ E) (j : Nat) : (diffTo ss ws M j).natAbs ≤ j * 2 ^ E := by
  induction j with
  | zero => simp [diffTo]
  | succ j ih =>
    have h1 : 2 ^ (M - ws.getD j 0).toNat ≤ 2 ^ E := Nat.pow_le_pow_right (by omega) (h j)
    simp only [diffTo]
    rw [Nat.add_mul, Nat.one_mul]
    generalize 2 ^ (M - ws.getD j 0).toNat = Q at *
    generalize 2 ^ E = P at *
    generalize j * P = JP at *
    split <;> omega
theorem pow_small {j E : Nat} (hj : j ≤ 20) (hE : E ≤ 300) : j * 2 ^ E < W32 ^ 4000 := by
  have h1 : j * 2 ^ E ≤ 2 ^ 5 * 2 ^ E := Nat.mul_le_mul_right _ (by omega)
  rw [← Nat.pow_add] at h1
  exact Nat.lt_of_le_of_lt h1 (pow_lt_W (by omega))
/-- What has been learned, after the first k foretellers. -/
def upTo (xs ss : List Int) (x : Int) (k j : Nat) : Int := if j < k then xs.getD j 0 + (if ss.getD j 0 = x then 0 else 1) else xs.getD j 0
theorem upTo_zero (xs ss : List Int) (x : Int) (j : Nat) : upTo xs ss x 0 j = xs.getD j 0 := if_neg (by omega)
theorem upTo_all (xs ss : List Int) (x : Int) (k j : Nat) (h : j < k) : upTo xs ss x k j = xs.getD j 0 + (if ss.getD j 0 = x then 0 else 1) := if_pos h
theorem upTo_at (xs ss : List Int) (x : Int) (k : Nat) : upTo xs ss x k k = xs.getD k 0 := if_neg (by omega)
theorem upTo_other (xs ss : List Int) (x : Int) (k j : Nat) (h : j ≠ k) : upTo xs ss x (k + 1) j = upTo xs ss x k j := by
  unfold upTo
  by_cases h1 : j < k
  · rw [if_pos h1, if_pos (by omega)]
  · rw [if_neg h1, if_neg (by omega)]
theorem getI_set (l : List Int) (i j : Nat) (x : Int) (h : i < l.length) : (l.set i x).getD j 0 = if j = i then x else l.getD j 0 := by
  by_cases hj : j = i
  · subst hj; simp [List.getD_eq_getElem?_getD, h]
  · rw [if_neg hj]; simp [List.getD_eq_getElem?_getD, List.getElem?_set_ne (fun e => hj e.symm)]
end Go.Proofs.Ytfaenbaaadjbbaa
