/- Plain laws: put by its index. No condition. -/
import Derived.Test.YtpehhbiodmgjeaaPlain15
namespace Go.Proofs.Ytpehhbiodmgjeaa

/-- k is the first index at which the list is not below x. -/
theorem putF_at : ∀ {l : List (List Int)} {x : List Int} {k : Nat}, k ≤ l.length → (∀ j, j < k → cmpL (l.getD j []) x < 0) → (k = l.length ∨ ¬ cmpL (l.getD k []) x < 0) → putF l x = if k < l.length ∧ ¬ cmpL x (l.getD k []) < 0 then l else l.take k ++ x :: l.drop k
  | [], x, k, hk, _, _ => by
    obtain rfl : k = 0 := by simpa using hk
    simp [putF]
  | a :: t, x, 0, _, _, h => by
    have h : ¬ cmpL a x < 0 := by simpa using h
    unfold putF
    rw [if_neg h]
    by_cases h2 : cmpL x a < 0
    · simp [h2]
    · rw [if_neg h2, if_pos ⟨by simp, by simpa using h2⟩]
  | a :: t, x, k + 1, hk, hb, h => by
    have ha : cmpL a x < 0 := by simpa using hb 0 (by omega)
    have ih := putF_at (l := t) (x := x) (k := k) (by simpa using hk) (fun j hj => by simpa using hb (j + 1) (by omega)) (by simpa using h)
    unfold putF
    rw [if_pos ha, ih]
    have e : (a :: t).getD (k + 1) [] = t.getD k [] := by simp
    rw [e]
    by_cases h3 : k < t.length ∧ ¬ cmpL x (t.getD k []) < 0
    · rw [if_pos h3, if_pos ⟨by simp; exact h3.1, h3.2⟩]
    · rw [if_neg h3, if_neg (fun h4 => h3 ⟨by simpa using h4.1, h4.2⟩)]
      simp
end Go.Proofs.Ytpehhbiodmgjeaa
