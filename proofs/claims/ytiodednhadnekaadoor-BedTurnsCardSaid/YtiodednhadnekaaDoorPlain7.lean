/- Plain laws: pairs of rows and of columns with just two crops, counted in two orders. -/
import Derived.Test.YtiodednhadnekaaDoorW36
namespace Go.Proofs.YtiodednhadnekaaDoor

theorem sumN_add (f g : Nat → Nat) : ∀ k, sumN (fun i => f i + g i) k = sumN f k + sumN g k
  | 0 => rfl
  | k + 1 => by
    show sumN (fun i => f i + g i) k + (f k + g k) = (sumN f k + f k) + (sumN g k + g k)
    rw [sumN_add f g k]; omega
/-- The sum over i below n and j below i, and the sum over j and the i between j and n. -/
theorem sumN_tri (f : Nat → Nat → Nat) : ∀ n, sumN (fun i => sumN (fun j => f i j) i) n = sumN (fun j => sumN (fun i => if j < i then f i j else 0) n) n
  | 0 => rfl
  | n + 1 => by
    show sumN (fun i => sumN (fun j => f i j) i) n + sumN (fun j => f n j) n = sumN (fun j => sumN (fun i => if j < i then f i j else 0) (n + 1)) n + sumN (fun i => if n < i then f i n else 0) (n + 1)
    have h1 : sumN (fun i => if n < i then f i n else 0) (n + 1) = 0 := sumN_zero fun i hi => by rw [if_neg (by omega)]
    have h2 : sumN (fun j => sumN (fun i => if j < i then f i j else 0) (n + 1)) n = sumN (fun j => sumN (fun i => if j < i then f i j else 0) n + f n j) n := sumN_congr fun j hj => by
      show sumN (fun i => if j < i then f i j else 0) n + (if j < n then f n j else 0) = _
      rw [if_pos hj]
    have h3 : sumN (fun j => sumN (fun i => if j < i then f i j else 0) n + f n j) n = sumN (fun j => sumN (fun i => if j < i then f i j else 0) n) n + sumN (fun j => f n j) n := sumN_add _ _ n
    rw [sumN_tri f n, h1, h2, h3, Nat.add_zero]
/-- Is it a pair of rows and of columns with just two crops? -/
def sqAt (b : List (List Int)) (i j c d : Nat) : Nat := if gAt b i c = gAt b j d ∧ gAt b i d = gAt b j c then 1 else 0
def sqN (b : List (List Int)) (n : Nat) : Nat := sumN (fun i => sumN (fun j => sumN (fun c => sumN (fun d => sqAt b i j c d) c) n) i) n
/-- The specification's order: r below s, c below d. -/
def sqR (b : List (List Int)) (n : Nat) : Nat := sumN (fun r => sumN (fun s => if r < s then sumN (fun c => sumN (fun d => if c < d then sqAt b r s c d else 0) n) n else 0) n) n
theorem sqAt_turn (b : List (List Int)) (i j c d : Nat) : sqAt b i j c d = sqAt b j i d c := by
  unfold sqAt
  by_cases h : gAt b i c = gAt b j d ∧ gAt b i d = gAt b j c
  · rw [if_pos h, if_pos ⟨h.1.symm, h.2.symm⟩]
  · rw [if_neg h, if_neg fun h2 => h ⟨h2.1.symm, h2.2.symm⟩]
theorem sqN_sqR (b : List (List Int)) (n : Nat) : sqN b n = sqR b n := by
  unfold sqN sqR
  rw [sumN_tri]
  refine sumN_congr fun r _ => sumN_congr fun s _ => ?_
  by_cases h : r < s
  · rw [if_pos h, if_pos h, sumN_tri]
    exact sumN_congr fun c _ => sumN_congr fun d _ => by
      by_cases h2 : c < d
      · rw [if_pos h2, if_pos h2, sqAt_turn]
      · rw [if_neg h2, if_neg h2]
  · rw [if_neg h, if_neg h]
end Go.Proofs.YtiodednhadnekaaDoor
