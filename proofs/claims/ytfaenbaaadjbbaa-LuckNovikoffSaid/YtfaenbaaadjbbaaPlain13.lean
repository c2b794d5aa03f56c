/- Plain laws: weights counted exactly: how many of each power of 1/2, the first number above 1 alone. No condition. -/
import Derived.Test.YtfaenbaaadjbbaaPlain12
namespace Go.Proofs.Ytfaenbaaadjbbaa

/-- The first i of the numbers that are counted, in 2^-200. -/
def valI (T : Nat → Int) : Nat → Int
  | 0 => 0
  | i + 1 => valI T i + T i * ((2 ^ (200 - i) : Nat) : Int)
theorem valI_congr {T U : Nat → Int} {n : Nat} (h : ∀ i, i < n → T i = U i) : valI T n = valI U n := by
  induction n with
  | zero => rfl
  | succ n ih => simp only [valI]; rw [ih fun i hi => h i (by omega), h n (by omega)]
/-- One number more at one place. -/
theorem valI_add {T U : Nat → Int} {n i : Nat} {d : Int} (hi : i < n) (h1 : U i = T i + d) (h2 : ∀ j, j ≠ i → U j = T j) : valI U n = valI T n + d * ((2 ^ (200 - i) : Nat) : Int) := by
  induction n with
  | zero => omega
  | succ n ih =>
    simp only [valI]
    rcases Nat.lt_or_ge i n with h | h
    · rw [ih h, h2 n (by omega)]; omega
    · obtain rfl : i = n := by omega
      rw [valI_congr (T := U) (U := T) fun j hj => h2 j (by omega), h1, Int.add_mul]; omega
/-- Two of a power are one of the next. -/
theorem valI_carry {T U : Nat → Int} {n i : Nat} (hi : i + 1 < n) (hn : i + 1 ≤ 200) (h1 : U (i + 1) = T (i + 1) % 2) (h2 : U i = T i + T (i + 1) / 2) (h3 : ∀ j, j ≠ i → j ≠ i + 1 → U j = T j) : valI U n = valI T n := by
  have e1 : valI U n = valI (fun j => if j = i then T i else U j) n + T (i + 1) / 2 * ((2 ^ (200 - i) : Nat) : Int) :=
    valI_add (by omega) (by simp [h2]) (fun j hj => by simp [hj])
  have e2 : valI (fun j => if j = i then T i else U j) n = valI T n + (T (i + 1) % 2 - T (i + 1)) * ((2 ^ (200 - (i + 1)) : Nat) : Int) :=
    valI_add hi (by simp [h1]; omega) (fun j hj => by
      by_cases h : j = i
      · subst h; simp
      · simp [h, h3 j h hj])
  have e3 : 2 ^ (200 - i) = 2 * 2 ^ (200 - (i + 1)) := by
    have : 200 - i = 200 - (i + 1) + 1 := by omega
    rw [this, Nat.pow_succ, Nat.mul_comm]
  rw [e1, e2, e3, Int.natCast_mul]
  generalize ((2 ^ (200 - (i + 1)) : Nat) : Int) = P
  have hd := Int.mul_ediv_add_emod (T (i + 1)) 2
  generalize T (i + 1) / 2 = a at *
  generalize T (i + 1) % 2 = b at *
  generalize T (i + 1) = t at *
  subst hd
  have : (b - (2 * a + b)) * P = -(a * (2 * P)) := by
    have : b - (2 * a + b) = -(2 * a) := by omega
    rw [this, Int.neg_mul, Int.mul_comm 2 a, Int.mul_assoc]
  have e0 : ((2 : Nat) : Int) = 2 := rfl
  rw [e0, this]; omega
/-- What is behind is less than one before. -/
theorem val_tail {T : Nat → Int} (i : Nat) (h : ∀ j, i < j → 0 ≤ T j ∧ T j ≤ 1) (n : Nat) (hn : n ≤ 201) (hi : i < n) : valI T n - valI T (i + 1) ≤ ((2 ^ (200 - i) : Nat) : Int) - ((2 ^ (201 - n) : Nat) : Int) ∧ 0 ≤ valI T n - valI T (i + 1) := by
  induction n with
  | zero => omega
  | succ n ih =>
    rcases Nat.lt_or_ge i n with h1 | h1
    · obtain ⟨i1, i2⟩ := ih (by omega) h1
      have ht := h n h1
      have e : 2 ^ (201 - n) = 2 * 2 ^ (200 - n) := by
        have : 201 - n = 200 - n + 1 := by omega
        rw [this, Nat.pow_succ, Nat.mul_comm]
      have e2 : 201 - (n + 1) = 200 - n := by omega
      rw [e, Int.natCast_mul] at i1
      have e5 : valI T (n + 1) = valI T n + T n * ((2 ^ (200 - n) : Nat) : Int) := rfl
      rw [e2, e5]
      have hp : (0 : Int) ≤ ((2 ^ (200 - n) : Nat) : Int) := by omega
      generalize ((2 ^ (200 - n) : Nat) : Int) = P at *
      have hm1 := Int.mul_le_mul_of_nonneg_right ht.2 hp
      have hm0 := Int.mul_nonneg ht.1 hp
      generalize T n * P = Q at *
      omega
    · obtain rfl : i = n := by omega
      have e : 201 - (i + 1) = 200 - i := by omega
      rw [e]; omega
/-- The first of two lists of numbers that differ tell which is above. -/
def aboveTo (T U : Nat → Int) (n : Nat) : Nat → Bool
  | 0 => false
  | k + 1 => if T (n - (k + 1)) = U (n - (k + 1)) then aboveTo T U n k else decide (U (n - (k + 1)) < T (n - (k + 1)))
theorem above_val {T U : Nat → Int} (hT : ∀ j, 0 < j → 0 ≤ T j ∧ T j ≤ 1) (hU : ∀ j, 0 < j → 0 ≤ U j ∧ U j ≤ 1) (k : Nat) (hk : k ≤ 201) (he : valI T (201 - k) = valI U (201 - k)) : aboveTo T U 201 k = decide (valI U 201 < valI T 201) := by
  induction k with
  | zero =>
    rw [Nat.sub_zero] at he
    rw [he]
    exact (decide_eq_false (by omega)).symm
  | succ k ih =>
    obtain ⟨i, hi⟩ : ∃ i, i = 201 - (k + 1) := ⟨_, rfl⟩
    have hi2 : 201 - k = i + 1 := by omega
    simp only [aboveTo]
    rw [← hi] at he ⊢
    split
    · rename_i h
      refine ih (by omega) ?_
      rw [hi2]
      show valI T i + T i * _ = valI U i + U i * _
      rw [he, h]
    · rename_i h
      obtain ⟨a1, a2⟩ := val_tail (T := T) i (fun j hj => hT j (by omega)) 201 (by omega) (by omega)
      obtain ⟨b1, b2⟩ := val_tail (T := U) i (fun j hj => hU j (by omega)) 201 (by omega) (by omega)
      have eT : valI T (i + 1) = valI T i + T i * ((2 ^ (200 - i) : Nat) : Int) := rfl
      have eU : valI U (i + 1) = valI U i + U i * ((2 ^ (200 - i) : Nat) : Int) := rfl
      rw [eT] at a1 a2
      rw [eU] at b1 b2
      have hone : ((2 ^ (201 - 201) : Nat) : Int) = 1 := rfl
      rw [hone] at a1 b1
      have hp : (0 : Int) < ((2 ^ (200 - i) : Nat) : Int) := by
        have : 0 < 2 ^ (200 - i) := Nat.pow_pos (by omega)
        omega
      generalize ((2 ^ (200 - i) : Nat) : Int) = P at *
      generalize valI T 201 = A at *
      generalize valI U 201 = B at *
      generalize valI T i = a at *
      generalize valI U i = b at *
      generalize T i = t at *
      generalize U i = u at *
      subst he
      by_cases hlt : u < t
      · have h1 := Int.mul_le_mul_of_nonneg_right (by omega : u + 1 ≤ t) (Int.le_of_lt hp)
        rw [Int.add_mul, Int.one_mul] at h1
        rw [decide_eq_true hlt, decide_eq_true (by omega)]
      · have h1 := Int.mul_le_mul_of_nonneg_right (by omega : t + 1 ≤ u) (Int.le_of_lt hp)
        rw [Int.add_mul, Int.one_mul] at h1
        rw [decide_eq_false hlt, decide_eq_false (by omega)]
end Go.Proofs.Ytfaenbaaadjbbaa
