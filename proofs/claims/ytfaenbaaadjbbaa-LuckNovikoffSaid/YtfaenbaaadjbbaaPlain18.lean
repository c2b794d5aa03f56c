/- Plain laws: Novikoff. No condition. -/
import Derived.Test.YtfaenbaaadjbbaaPlain16
namespace Go.Proofs.Ytfaenbaaadjbbaa

theorem dot_succ (p W : List Int) (k : Nat) : dotTo p W (k + 1) = dotTo p W k + p.getD k 0 * W.getD k 0 := rfl
theorem dot_zero (p W : List Int) : dotTo p W 0 = 0 := rfl
theorem dot_sq (p : List Int) (k : Nat) : 0 ≤ dotTo p p k := by
  induction k with
  | zero => exact Int.le_refl _
  | succ k ih => rw [dot_succ]; exact Int.add_nonneg ih (by rcases Int.le_total 0 (p.getD k 0) with h | h; exact Int.mul_nonneg h h; exact Int.mul_nonneg_of_nonpos_of_nonpos h h)
theorem sq_nn (x : Int) : 0 ≤ x * x := by
  rcases Int.le_total 0 x with h | h
  · exact Int.mul_nonneg h h
  · exact Int.mul_nonneg_of_nonpos_of_nonpos h h
theorem quad_nn (a b : List Int) (x y : Int) (k : Nat) : 0 ≤ dotTo a a k * (x * x) - 2 * (dotTo a b k * (x * y)) + dotTo b b k * (y * y) := by
  induction k with
  | zero => simp [dot_zero]
  | succ k ih =>
    rw [dot_succ, dot_succ, dot_succ]
    have h := sq_nn (a.getD k 0 * x - b.getD k 0 * y)
    generalize a.getD k 0 = s at *
    generalize b.getD k 0 = t at *
    generalize dotTo a a k = A at *
    generalize dotTo a b k = C at *
    generalize dotTo b b k = B at *
    have e : (A + s * s) * (x * x) - 2 * ((C + s * t) * (x * y)) + (B + t * t) * (y * y) = (A * (x * x) - 2 * (C * (x * y)) + B * (y * y)) + (s * x - t * y) * (s * x - t * y) := by grind
    omega
/-- Cauchy and Schwarz. -/
theorem cauchy (a b : List Int) (k : Nat) : dotTo a b k * dotTo a b k ≤ dotTo a a k * dotTo b b k := by
  induction k with
  | zero => simp [dot_zero]
  | succ k ih =>
    rw [dot_succ, dot_succ, dot_succ]
    have h := quad_nn a b (b.getD k 0) (a.getD k 0) k
    generalize a.getD k 0 = s at *
    generalize b.getD k 0 = t at *
    generalize dotTo a a k = A at *
    generalize dotTo a b k = C at *
    generalize dotTo b b k = B at *
    have e1 : (C + s * t) * (C + s * t) = C * C + 2 * (C * (t * s)) + (s * s) * (t * t) := by grind
    have e2 : (A + s * s) * (B + t * t) = A * B + A * (t * t) + B * (s * s) + (s * s) * (t * t) := by grind
    omega
/-- What a mistake adds. -/
theorem dot_ptW (p W u : List Int) (g : Int) (d k : Nat) (hk : k ≤ d) : dotTo (ptW p g d W) u k = dotTo W u k + g * dotTo p u k := by
  induction k with
  | zero => simp [dot_zero]
  | succ k ih =>
    rw [dot_succ, dot_succ, dot_succ, ih (by omega), ptW_get (by omega)]
    grind
theorem dot_ptW2 (p W : List Int) (g : Int) (hg : g * g = 1) (d k : Nat) (hk : k ≤ d) : dotTo (ptW p g d W) (ptW p g d W) k = dotTo W W k + 2 * (g * dotTo p W k) + dotTo p p k := by
  induction k with
  | zero => simp [dot_zero]
  | succ k ih =>
    rw [dot_succ, dot_succ, dot_succ, dot_succ, ih (by omega), ptW_get (by omega)]
    grind
/-- What holds of what has been learned. -/
def Nov (u : List Int) (d : Nat) (mg most : Int) (s : List Int × Nat) : Prop := (s.2 : Int) * mg ≤ dotTo s.1 u d ∧ dotTo s.1 s.1 d ≤ (s.2 : Int) * most
theorem Nov.step {p u : List Int} {g mg most : Int} {d : Nat} {s : List Int × Nat} (h : Nov u d mg most s) (hg : g = 1 ∨ g = -1) (h1 : mg ≤ g * dotTo p u d) (h2 : dotTo p p d ≤ most) : Nov u d mg most (ptStep p g d s) := by
  obtain ⟨a, b⟩ := h
  unfold ptStep
  split
  · exact ⟨a, b⟩
  · rename_i hn
    have hgg : g * g = 1 := by rcases hg with rfl | rfl <;> rfl
    refine ⟨?_, ?_⟩
    · show ((s.2 + 1 : Nat) : Int) * mg ≤ dotTo (ptW p g d s.1) u d
      rw [dot_ptW _ _ _ _ _ _ (Nat.le_refl _), Int.natCast_add, Int.add_mul]
      omega
    · show dotTo (ptW p g d s.1) (ptW p g d s.1) d ≤ ((s.2 + 1 : Nat) : Int) * most
      rw [dot_ptW2 _ _ _ hgg _ _ (Nat.le_refl _), Int.natCast_add, Int.add_mul]
      omega
theorem Nov.rnd {pts : List (List Int)} {signs u : List Int} {d : Nat} {mg most : Int} {s : List Int × Nat} (h : Nov u d mg most s) (i : Nat) (hg : ∀ j, j < i → signs.getD j 0 = 1 ∨ signs.getD j 0 = -1) (h1 : ∀ j, j < i → mg ≤ signs.getD j 0 * dotTo (pts.getD j []) u d) (h2 : ∀ j, j < i → dotTo (pts.getD j []) (pts.getD j []) d ≤ most) : Nov u d mg most (rnd pts signs d s i) := by
  induction i with
  | zero => exact h
  | succ i ih => exact (ih (fun j hj => hg j (by omega)) (fun j hj => h1 j (by omega)) (fun j hj => h2 j (by omega))).step (hg i (by omega)) (h1 i (by omega)) (h2 i (by omega))
theorem zeros_dot (n k : Nat) (u : List Int) : dotTo (List.replicate n 0) u k = 0 := by
  induction k with
  | zero => rfl
  | succ k ih =>
    rw [dot_succ, ih]
    have : (List.replicate n (0 : Int)).getD k 0 = 0 := by by_cases h : k < n <;> simp [List.getD_eq_getElem?_getD, h]
    rw [this]; omega
theorem Nov.runs {pts : List (List Int)} {signs u : List Int} {d : Nat} {mg most : Int} (r : Nat) (hg : ∀ j, j < pts.length → signs.getD j 0 = 1 ∨ signs.getD j 0 = -1) (h1 : ∀ j, j < pts.length → mg ≤ signs.getD j 0 * dotTo (pts.getD j []) u d) (h2 : ∀ j, j < pts.length → dotTo (pts.getD j []) (pts.getD j []) d ≤ most) : Nov u d mg most (runs pts signs d r) := by
  induction r with
  | zero =>
    show ((0 : Nat) : Int) * mg ≤ dotTo (List.replicate d 0) u d ∧ dotTo (List.replicate d 0) (List.replicate d 0) d ≤ ((0 : Nat) : Int) * most
    rw [zeros_dot, zeros_dot]; simp
  | succ r ih => exact ih.rnd pts.length hg h1 h2
/-- Novikoff's bound. -/
theorem novikoff {pts : List (List Int)} {signs u : List Int} {d : Nat} {mg most : Int} (r : Nat) (hmg : 0 ≤ mg) (hg : ∀ j, j < pts.length → signs.getD j 0 = 1 ∨ signs.getD j 0 = -1) (h1 : ∀ j, j < pts.length → mg ≤ signs.getD j 0 * dotTo (pts.getD j []) u d) (h2 : ∀ j, j < pts.length → dotTo (pts.getD j []) (pts.getD j []) d ≤ most) (hm : 0 < (runs pts signs d r).2) :
    ((runs pts signs d r).2 : Int) * (mg * mg) ≤ most * dotTo u u d := by
  obtain ⟨a, b⟩ := Nov.runs (pts := pts) (signs := signs) (u := u) (d := d) r hg h1 h2
  have hc := cauchy (runs pts signs d r).1 u d
  have hu := dot_sq u d
  generalize (runs pts signs d r).2 = m at *
  generalize dotTo (runs pts signs d r).1 u d = c at *
  generalize dotTo (runs pts signs d r).1 (runs pts signs d r).1 d = v at *
  generalize dotTo u u d = U at *
  have hmm : (0 : Int) < (m : Int) := by omega
  generalize (m : Int) = M at *
  have h0 : 0 ≤ M * mg := Int.mul_nonneg (Int.le_of_lt hmm) hmg
  have s1 : (M * mg) * (M * mg) ≤ c * c := Int.mul_le_mul a a h0 (Int.le_trans h0 a)
  have s2 : v * U ≤ M * most * U := Int.mul_le_mul_of_nonneg_right b hu
  have s3 : M * (M * (mg * mg)) ≤ M * (most * U) := by
    have e1 : (M * mg) * (M * mg) = M * (M * (mg * mg)) := by grind
    have e2 : M * most * U = M * (most * U) := by grind
    omega
  exact Int.le_of_mul_le_mul_left s3 hmm
/-! ### the weights that are returned separate the points -/
theorem step_up (p : List Int) (g : Int) (d : Nat) (s : List Int × Nat) : s.2 ≤ (ptStep p g d s).2 := by unfold ptStep; split; exact Nat.le_refl _; exact Nat.le_succ _
theorem rnd_up (pts : List (List Int)) (signs : List Int) (d : Nat) (s : List Int × Nat) (i : Nat) : s.2 ≤ (rnd pts signs d s i).2 := by
  induction i with
  | zero => exact Nat.le_refl _
  | succ i ih => exact Nat.le_trans ih (step_up _ _ _ _)
theorem rnd_calm {pts : List (List Int)} {signs : List Int} {d : Nat} {s : List Int × Nat} (i : Nat) (h : (rnd pts signs d s i).2 = s.2) : rnd pts signs d s i = s ∧ ∀ j, j < i → 0 < signs.getD j 0 * dotTo (pts.getD j []) s.1 d := by
  induction i with
  | zero => exact ⟨rfl, fun j hj => by omega⟩
  | succ i ih =>
    have h1 := rnd_up pts signs d s i
    have h2 := step_up (pts.getD i []) (signs.getD i 0) d (rnd pts signs d s i)
    have h3 : (ptStep (pts.getD i []) (signs.getD i 0) d (rnd pts signs d s i)).2 = s.2 := h
    obtain ⟨e, hj⟩ := ih (by omega)
    rw [e] at h3
    have h4 : 0 < signs.getD i 0 * dotTo (pts.getD i []) s.1 d := by
      by_cases hc : 0 < signs.getD i 0 * dotTo (pts.getD i []) s.1 d
      · exact hc
      · unfold ptStep at h3; rw [if_neg hc] at h3; simp at h3
    refine ⟨?_, fun j hji => ?_⟩
    · show ptStep (pts.getD i []) (signs.getD i 0) d (rnd pts signs d s i) = s
      rw [e]; unfold ptStep; rw [if_pos h4]
    · rcases Nat.lt_or_ge j i with h5 | h5
      · exact hj j h5
      · obtain rfl : j = i := by omega
        exact h4
theorem calm_same {pts : List (List Int)} {signs : List Int} {d r : Nat} (h : calm pts signs d r = true) : runs pts signs d (r + 1) = runs pts signs d r ∧ ∀ j, j < pts.length → 0 < signs.getD j 0 * dotTo (pts.getD j []) (runs pts signs d (r + 1)).1 d := by
  have h1 : (rnd pts signs d (runs pts signs d r) pts.length).2 = (runs pts signs d r).2 := eq_of_beq h
  obtain ⟨e, hj⟩ := rnd_calm _ h1
  have e2 : runs pts signs d (r + 1) = runs pts signs d r := e
  exact ⟨e2, by rw [e2]; exact hj⟩
theorem runs_up (pts : List (List Int)) (signs : List Int) (d r : Nat) : (runs pts signs d 1).2 ≤ (runs pts signs d (r + 1)).2 := by
  induction r with
  | zero => exact Nat.le_refl _
  | succ r ih => exact Nat.le_trans ih (rnd_up _ _ _ _ _)
theorem runs_one (pts : List (List Int)) (signs : List Int) (d : Nat) (h : 0 < pts.length) : 0 < (runs pts signs d 1).2 := by
  have h1 : (rnd pts signs d (runs pts signs d 0) 1).2 ≤ (rnd pts signs d (runs pts signs d 0) pts.length).2 := by
    have hh : ∀ n, 0 < n → (rnd pts signs d (runs pts signs d 0) 1).2 ≤ (rnd pts signs d (runs pts signs d 0) n).2 := by
      intro n
      induction n with
      | zero => intro h; omega
      | succ n ih =>
        intro _
        rcases Nat.eq_zero_or_pos n with rfl | hn
        · exact Nat.le_refl _
        · exact Nat.le_trans (ih hn) (step_up _ _ _ _)
    exact hh _ h
  have h2 : (rnd pts signs d (runs pts signs d 0) 1).2 = 1 := by
    show (ptStep (pts.getD 0 []) (signs.getD 0 0) d (List.replicate d 0, 0)).2 = 1
    unfold ptStep
    have e : dotTo (pts.getD 0 []) (List.replicate d 0) d = 0 := by
      have : ∀ k, dotTo (pts.getD 0 []) (List.replicate d 0) k = 0 := fun k => by
        induction k with
        | zero => rfl
        | succ k ih =>
          rw [dot_succ, ih]
          have : (List.replicate d (0 : Int)).getD k 0 = 0 := by by_cases h : k < d <;> simp [List.getD_eq_getElem?_getD, h]
          rw [this]; omega
      exact this d
    simp only
    rw [e, Int.mul_zero, if_neg (by omega)]
  show 0 < (rnd pts signs d (runs pts signs d 0) pts.length).2
  omega
/-! ### what the statement reckons -/
def mostTo (pts : List (List Int)) (d : Nat) : Nat → Int
  | 0 => 0
  | i + 1 => max (mostTo pts d i) (dotTo (pts.getD i []) (pts.getD i []) d)
def margTo (pts : List (List Int)) (signs u : List Int) (d : Nat) : Nat → Int
  | 0 => -1
  | i + 1 => if margTo pts signs u d i < 0 ∨ signs.getD i 0 * dotTo (pts.getD i []) u d < margTo pts signs u d i then max 0 (signs.getD i 0 * dotTo (pts.getD i []) u d) else margTo pts signs u d i
theorem mostTo_ge (pts : List (List Int)) (d i j : Nat) (h : j < i) : dotTo (pts.getD j []) (pts.getD j []) d ≤ mostTo pts d i := by
  induction i with
  | zero => omega
  | succ i ih =>
    simp only [mostTo]
    rcases Nat.lt_or_ge j i with h1 | h1
    · have := ih h1; omega
    · obtain rfl : j = i := by omega
      omega
theorem mostTo_in (pts : List (List Int)) (d : Nat) (B : Int) (hB : 0 ≤ B) (i : Nat) (h : ∀ j, j < i → dotTo (pts.getD j []) (pts.getD j []) d ≤ B) : 0 ≤ mostTo pts d i ∧ mostTo pts d i ≤ B := by
  induction i with
  | zero => exact ⟨Int.le_refl _, hB⟩
  | succ i ih =>
    have := ih fun j hj => h j (by omega)
    have := h i (by omega)
    simp only [mostTo]; omega
theorem margTo_in (pts : List (List Int)) (signs u : List Int) (d : Nat) (B : Int) (hB : 0 ≤ B) (i : Nat) (h : ∀ j, j < i → signs.getD j 0 * dotTo (pts.getD j []) u d ≤ B) : -1 ≤ margTo pts signs u d i ∧ margTo pts signs u d i ≤ B ∧ (0 < i → 0 ≤ margTo pts signs u d i) := by
  induction i with
  | zero => exact ⟨Int.le_refl _, by show (-1 : Int) ≤ B; omega, fun h => by omega⟩
  | succ i ih =>
    have h1 := ih fun j hj => h j (by omega)
    have h2 := h i (by omega)
    simp only [margTo]
    split
    · omega
    · rename_i h3; omega
theorem margTo_le (pts : List (List Int)) (signs u : List Int) (d i : Nat) (h0 : 0 < margTo pts signs u d i) (j : Nat) (hj : j < i) : margTo pts signs u d i ≤ signs.getD j 0 * dotTo (pts.getD j []) u d := by
  induction i with
  | zero => omega
  | succ i ih =>
    simp only [margTo] at h0 ⊢
    split at h0
    · rename_i h1
      rw [if_pos h1]
      rcases Nat.lt_or_ge j i with h2 | h2
      · have h3 := (margTo_in pts signs u d (max 0 (margTo pts signs u d i)) (by omega) 0 (fun j hj => by omega))
        rcases h1 with h1 | h1
        · exfalso
          have hi : 0 ≤ margTo pts signs u d i := by
            have : ∀ n, 0 < n → 0 ≤ margTo pts signs u d n := by
              intro n
              induction n with
              | zero => intro h; omega
              | succ n ihn =>
                intro _
                simp only [margTo]
                split
                · omega
                · rename_i h; omega
            exact this i (by omega)
          omega
        · have := ih (by omega) h2
          omega
      · obtain rfl : j = i := by omega
        omega
    · rename_i h1
      rw [if_neg h1]
      rcases Nat.lt_or_ge j i with h2 | h2
      · exact ih h0 h2
      · obtain rfl : j = i := by omega
        omega
end Go.Proofs.Ytfaenbaaadjbbaa
