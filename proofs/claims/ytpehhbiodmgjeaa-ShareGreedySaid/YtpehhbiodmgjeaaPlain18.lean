/- Plain laws: compacting, from the front. No condition. -/
import Derived.Test.YtpehhbiodmgjeaaPlain15
namespace Go.Proofs.Ytpehhbiodmgjeaa
theorem compF_one (a : List Int) : compF [a] = [a] := by unfold compF; rfl
theorem compF_eq (a : List Int) (t : List (List Int)) : compF (a :: a :: t) = compF (a :: t) := by rw [compF, if_pos rfl]
theorem compF_ne {a b : List Int} (h : ¬ a = b) (t : List (List Int)) : compF (a :: b :: t) = a :: compF (b :: t) := by rw [compF, if_neg h]
theorem compF_snoc : ∀ (k : Nat) (l : List (List Int)), l.length ≤ k → ∀ a b, compF (l ++ [a, b]) = if a = b then compF (l ++ [a]) else compF (l ++ [a]) ++ [b]
  | _, [], _, a, b => by
    by_cases h : a = b
    · subst h
      rw [if_pos rfl]
      exact compF_eq a []
    · rw [if_neg h]
      show compF [a, b] = compF [a] ++ [b]
      rw [compF_ne h, compF_one, compF_one]; rfl
  | 0, _ :: _, h, _, _ => by simp at h
  | k + 1, [c], _, a, b => by
    show compF (c :: a :: [b]) = if a = b then compF (c :: a :: []) else compF (c :: a :: []) ++ [b]
    have ih := compF_snoc k [] (by simp) a b
    by_cases h : c = a
    · subst h
      rw [compF_eq, compF_eq]
      exact ih
    · rw [compF_ne h, compF_ne h]
      have ih : compF [a, b] = if a = b then compF [a] else compF [a] ++ [b] := ih
      rw [ih]
      by_cases h2 : a = b
      · rw [if_pos h2, if_pos h2]
      · rw [if_neg h2, if_neg h2]; rfl
  | k + 1, c :: d :: l, h, a, b => by
    simp only [List.length_cons] at h
    show compF (c :: d :: (l ++ [a, b])) = if a = b then compF (c :: d :: (l ++ [a])) else compF (c :: d :: (l ++ [a])) ++ [b]
    have ih : compF (d :: (l ++ [a, b])) = if a = b then compF (d :: (l ++ [a])) else compF (d :: (l ++ [a])) ++ [b] := compF_snoc k (d :: l) (by simp; omega) a b
    by_cases h1 : c = d
    · subst h1
      rw [compF_eq, compF_eq]
      exact ih
    · rw [compF_ne h1, compF_ne h1, ih]
      by_cases h2 : a = b
      · rw [if_pos h2, if_pos h2]
      · rw [if_neg h2, if_neg h2]; rfl
theorem take_two {L : List (List Int)} {q : Nat} (h : q + 1 < L.length) : L.take (q + 2) = L.take q ++ [L.getD q [], L.getD (q + 1) []] := by
  rw [List.take_succ_eq_append_getElem h, List.take_succ_eq_append_getElem (by omega), List.append_assoc]
  have e1 : L.getD q [] = L[q] := by simp [List.getD_eq_getElem?_getD, show q < L.length by omega]
  have e2 : L.getD (q + 1) [] = L[q + 1] := by simp [List.getD_eq_getElem?_getD, h]
  rw [e1, e2]; rfl
theorem take_one {L : List (List Int)} {q : Nat} (h : q < L.length) : L.take (q + 1) = L.take q ++ [L.getD q []] := by
  rw [List.take_succ_eq_append_getElem h]
  simp [List.getD_eq_getElem?_getD, h]
theorem compTo_same {L : List (List Int)} {q : Nat} (h : q + 1 < L.length) (e : L.getD (q + 1) [] = L.getD q []) : compF (L.take (q + 2)) = compF (L.take (q + 1)) := by
  rw [take_two h, compF_snoc _ _ (Nat.le_refl _), if_pos e.symm, take_one (by omega)]
theorem compTo_more {L : List (List Int)} {q : Nat} (h : q + 1 < L.length) (e : ¬ L.getD (q + 1) [] = L.getD q []) : compF (L.take (q + 2)) = compF (L.take (q + 1)) ++ [L.getD (q + 1) []] := by
  rw [take_two h, compF_snoc _ _ (Nat.le_refl _), if_neg (fun h => e h.symm), take_one (by omega)]
theorem compTo_first {L : List (List Int)} (h : 0 < L.length) : compF (L.take 1) = L.take 1 := by
  rw [take_one h]
  exact compF_one _
end Go.Proofs.Ytpehhbiodmgjeaa
