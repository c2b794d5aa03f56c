/- Plain: what TopHedges compares. -/
import Derived.Test.YtmepndnckcpgjaaGreatPlain21
import Derived.Test.YtmepndnckcpgjaaGreatPlain10
namespace Go.Proofs.YtmepndnckcpgjaaGreat
theorem hed_ok {n : Int} {f : Int × Int} (h : f.1 ≠ f.2) : hedgeOk n [f.1, f.2, 1] = !fB n f := by
  rw [Bool.eq_iff_iff]
  unfold hedgeOk fB hA hB hC
  have e : (0 : Int) ≤ 1 ∧ (1 : Int) ≤ 1000 := by omega
  simp [h]
  try omega
theorem cut_gar {n : Nat} {fs : List (Int × Int)} (h1 : 1 ≤ n) (h6 : n ≤ 6) (hl : fs.length ≤ 14) (hne : ∀ k, k < fs.length → (fs.getD k (0, 0)).1 ≠ (fs.getD k (0, 0)).2) : cutErr n (hedL fs) = garE n fs := by
  have hne2 : ∀ f ∈ fs, f.1 ≠ f.2 := fun f hf => by
    obtain ⟨k, hk, rfl⟩ := List.getElem_of_mem hf
    have := hne k hk
    rwa [List.getD_eq_getElem?_getD, List.getElem?_eq_getElem hk] at this
  have e : hedgesOk n (hedL fs) = !fs.any (fB n) := by
    unfold hedgesOk hedL
    rw [List.all_map]
    induction fs with
    | nil => rfl
    | cons a l ih =>
      rw [List.all_cons, List.any_cons, Bool.not_or]
      rw [show ((hedgeOk (n : Int)) ∘ fun f : Int × Int => [f.1, f.2, 1]) a = !fB n a from hed_ok (hne2 a (by simp))]
      rw [ih (by rw [List.length_cons] at hl; omega) (fun k hk => by
        have := hne (k + 1) (by rw [List.length_cons]; omega)
        simpa using this) (fun f hf => hne2 f (by simp [hf]))]
  unfold cutErr garE
  rw [if_pos (show 1 ≤ (n : Int) ∧ (n : Int) ≤ 6 by omega), if_neg (show ¬ 20 < (hedL fs).length by unfold hedL; rw [List.length_map]; omega), if_neg (show ¬ ((n : Int) < 1 ∨ 8 < (n : Int)) by omega), if_neg (show ¬ 14 < fs.length by omega), e]
  cases fs.any (fB n) <;> rfl
/-- does some cost, from place 1 to below x, be v? -/
def apT (cs : List Int) (v : Int) : Nat → Bool
  | 0 => false
  | x + 1 => apT cs v x || (decide (1 ≤ x) && (cs.getD x 0 == v))
theorem apT_iff {cs : List Int} {v : Int} : ∀ {x}, apT cs v x = true ↔ ∃ y, 1 ≤ y ∧ y < x ∧ cs.getD y 0 = v
  | 0 => by simp [apT]
  | x + 1 => by
    unfold apT
    rw [Bool.or_eq_true, apT_iff, Bool.and_eq_true, decide_eq_true_eq, beq_iff_eq]
    constructor
    · rintro (⟨y, h1, h2, h3⟩ | ⟨h1, h3⟩)
      · exact ⟨y, h1, by omega, h3⟩
      · exact ⟨x, h1, by omega, h3⟩
    · rintro ⟨y, h1, h2, h3⟩
      by_cases e : y = x
      · subst e; exact .inr ⟨h1, h3⟩
      · exact .inl ⟨y, h1, by omega, h3⟩
theorem apT_one (cs : List Int) (v : Int) : apT cs v 1 = false := rfl
theorem apT_next (cs : List Int) (v : Int) {x : Nat} (h : 1 ≤ x) : apT cs v (x + 1) = (apT cs v x || (cs.getD x 0 == v)) := by
  show (apT cs v x || (decide (1 ≤ x) && (cs.getD x 0 == v))) = _
  rw [decide_eq_true h, Bool.true_and]
theorem apart_law {n : Nat} {fs : List (Int × Int)} (h1 : 1 ≤ n) (h : garE n fs = 0) : apT (cutL n (hedL fs)) 0 (2 ^ n - 1) = decide (1 < groupsN n fs (allM fs.length)) := by
  rw [Bool.eq_iff_iff, decide_eq_true_eq, apT_iff, ← apart_iff h1 h]
  constructor
  · rintro ⟨y, a, b, c⟩
    exact ⟨y, a, b, by rw [← c, cutL_get n (hedL fs) y (by omega)]⟩
  · rintro ⟨y, a, b, c⟩
    exact ⟨y, a, b, by rw [cutL_get n (hedL fs) y (by omega), c]⟩
theorem bridge_law {n : Nat} {fs : List (Int × Int)} (h1 : 1 ≤ n) (h : garE n fs = 0) : apT (cutL n (hedL fs)) 1 (2 ^ n - 1) = decide (0 < (brTo n fs fs.length).length) := by
  rw [Bool.eq_iff_iff, decide_eq_true_eq, apT_iff, ← bridge_iff h1 h]
  constructor
  · rintro ⟨y, a, b, c⟩
    exact ⟨y, a, b, by rw [← c, cutL_get n (hedL fs) y (by omega)]⟩
  · rintro ⟨y, a, b, c⟩
    exact ⟨y, a, b, by rw [cutL_get n (hedL fs) y (by omega), c]⟩
theorem hedL_snoc (fs : List (Int × Int)) {k : Nat} (hk : k < fs.length) : hedL (fs.take (k + 1)) = hedL (fs.take k) ++ [[(fs.getD k (0, 0)).1, (fs.getD k (0, 0)).2, 1]] := by
  unfold hedL
  rw [List.take_add_one, List.getElem?_eq_getElem hk, List.map_append]
  simp [List.getD_eq_getElem?_getD, List.getElem?_eq_getElem hk]
end Go.Proofs.YtmepndnckcpgjaaGreat
