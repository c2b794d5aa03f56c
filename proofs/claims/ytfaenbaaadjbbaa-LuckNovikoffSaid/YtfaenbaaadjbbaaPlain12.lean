/- Plain laws: the first of the least. No condition. -/
import Derived.Test.YtfaenbaaadjbbaaPlain10
namespace Go.Proofs.Ytfaenbaaadjbbaa

/-- The first index of the least of the first k numbers. -/
def whoTo (xs : List Int) : Nat → Nat
  | 0 => 0
  | k + 1 => if xs.getD k 0 < xs.getD (whoTo xs k) 0 then k else whoTo xs k
theorem who_one (xs : List Int) : whoTo xs 1 = 0 := by
  show (if xs.getD 0 0 < xs.getD 0 0 then 0 else 0) = 0
  split <;> rfl
theorem who_lt (xs : List Int) (k : Nat) (h : 0 < k) : whoTo xs k < k := by
  induction k with
  | zero => omega
  | succ k ih =>
    rcases Nat.eq_zero_or_pos k with rfl | hk
    · rw [who_one]; omega
    · simp only [whoTo]
      split
      · omega
      · have := ih hk; omega
theorem who_min (xs : List Int) (k j : Nat) (h : j < k) : xs.getD (whoTo xs k) 0 ≤ xs.getD j 0 := by
  induction k with
  | zero => omega
  | succ k ih =>
    simp only [whoTo]
    rcases Nat.lt_or_ge j k with h1 | h1
    · have := ih h1
      split
      · rename_i h2; omega
      · exact this
    · obtain rfl : j = k := by omega
      split
      · omega
      · rename_i h2; omega
theorem who_first (xs : List Int) (k j : Nat) (h : j < whoTo xs k) (hk : 0 < k) : xs.getD (whoTo xs k) 0 < xs.getD j 0 := by
  induction k with
  | zero => omega
  | succ k ih =>
    rcases Nat.eq_zero_or_pos k with rfl | hk'
    · rw [who_one] at h; omega
    · simp only [whoTo] at h ⊢
      split
      · rename_i h2
        rw [if_pos h2] at h
        have := who_min xs k j h
        omega
      · rename_i h2
        rw [if_neg h2] at h
        exact ih h hk'
theorem who_step (xs : List Int) (k : Nat) : xs.getD (whoTo xs (k + 1)) 0 = if xs.getD k 0 < xs.getD (whoTo xs k) 0 then xs.getD k 0 else xs.getD (whoTo xs k) 0 := by
  simp only [whoTo]; split <;> rfl
def bestWho (n : Int) (said : List (List Int)) (came : List Int) : Int := if recErr n said came = 0 then (whoTo (wrL said came n.toNat said.length) n.toNat : Int) else 0
def bestFew (n : Int) (said : List (List Int)) (came : List Int) : Int := if recErr n said came = 0 then (wr said came (whoTo (wrL said came n.toNat said.length) n.toNat) said.length : Int) else 0
end Go.Proofs.Ytfaenbaaadjbbaa
