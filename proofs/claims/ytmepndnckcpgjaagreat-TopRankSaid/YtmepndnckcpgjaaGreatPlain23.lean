/- Plain: the rank of a set of fences. -/
import Derived.Test.YtmepndnckcpgjaaGreatPlain21
namespace Go.Proofs.YtmepndnckcpgjaaGreat
/-! ### the fences of a set -/
def choTo (fs : List (Int × Int)) (set : Nat) : Nat → List (Int × Int)
  | 0 => []
  | k + 1 => if set.testBit k = true then choTo fs set k ++ [fs.getD k (0, 0)] else choTo fs set k
def cho (fs : List (Int × Int)) (set : Nat) : List (Int × Int) := choTo fs set fs.length
theorem mem_choTo {fs : List (Int × Int)} {set : Nat} {x : Int × Int} : ∀ {k}, x ∈ choTo fs set k ↔ ∃ j, j < k ∧ set.testBit j = true ∧ x = fs.getD j (0, 0)
  | 0 => by simp [choTo]
  | k + 1 => by
    unfold choTo
    constructor
    · intro h
      split at h
      · rename_i hb
        rcases List.mem_append.1 h with h | h
        · obtain ⟨j, h1, h2, h3⟩ := mem_choTo.1 h
          exact ⟨j, by omega, h2, h3⟩
        · exact ⟨k, by omega, hb, by simpa using h⟩
      · obtain ⟨j, h1, h2, h3⟩ := mem_choTo.1 h
        exact ⟨j, by omega, h2, h3⟩
    · rintro ⟨j, h1, h2, h3⟩
      by_cases e : j = k
      · subst e
        rw [if_pos h2]
        exact List.mem_append.2 (.inr (by simp [h3]))
      · split
        · exact List.mem_append.2 (.inl (mem_choTo.2 ⟨j, by omega, h2, h3⟩))
        · exact mem_choTo.2 ⟨j, by omega, h2, h3⟩
theorem choTo_len (fs : List (Int × Int)) (set : Nat) : ∀ k, (choTo fs set k).length ≤ k
  | 0 => by simp [choTo]
  | k + 1 => by
    have := choTo_len fs set k
    unfold choTo
    split
    · rw [List.length_append, List.length_singleton]; omega
    · omega
/-- No fence leaves the set x. -/
def Clo (fs : List (Int × Int)) (x : Nat) : Prop := ∀ f ∈ fs, x.testBit f.1.toNat = x.testBit f.2.toNat
theorem clK_clo {fs : List (Int × Int)} {set x : Nat} : clK fs set fs.length x = true ↔ Clo (cho fs set) x := by
  rw [cl_iff]
  unfold Clo cho
  constructor
  · intro h f hf
    obtain ⟨j, h1, h2, rfl⟩ := mem_choTo.1 hf
    have := h j h1 h2
    unfold crs fA fC at this
    simpa using this
  · intro h j h1 h2
    have := h _ (mem_choTo.2 ⟨j, h1, h2, rfl⟩)
    unfold crs fA fC
    simpa using this
theorem cho_all (fs : List (Int × Int)) : cho fs (allM fs.length) = fs := by
  have : ∀ k, k ≤ fs.length → choTo fs (allM fs.length) k = fs.take k := by
    intro k
    induction k with
    | zero => intro _; simp [choTo]
    | succ k ih =>
      intro hk
      unfold choTo
      rw [if_pos (by rw [allM_bit]; simp; omega), ih (by omega), List.take_add_one, List.getElem?_eq_getElem (by omega)]
      simp [List.getD_eq_getElem?_getD, List.getElem?_eq_getElem (show k < fs.length by omega)]
  have h := this fs.length (Nat.le_refl _)
  rwa [List.take_length] at h
theorem cho_gar {n : Nat} {fs : List (Int × Int)} (h : garE n fs = 0) (set : Nat) : garE n (cho fs set) = 0 := by
  have h0 := h
  obtain ⟨h1, h2, h3, _⟩ := garE_facts h
  unfold garE at h ⊢
  rw [if_neg (by omega), if_neg (by omega)] at h
  have hl := choTo_len fs set fs.length
  rw [if_neg (by omega), if_neg (by unfold cho; omega)]
  have ha : fs.any (fB n) = false := by
    cases hv : fs.any (fB n)
    · rfl
    · rw [hv] at h; cases h
  rw [if_neg]
  intro h
  obtain ⟨x, hx, hv⟩ := List.any_eq_true.1 h
  obtain ⟨j, h1, h2, rfl⟩ := mem_choTo.1 hx
  rw [List.any_eq_false] at ha
  exact ha _ (by rw [List.getD_eq_getElem?_getD, List.getElem?_eq_getElem h1]; exact List.getElem_mem h1) hv
theorem pow_inj {a b : Nat} (h : 2 ^ a = 2 ^ b) : a = b := by
  rcases Nat.lt_trichotomy a b with h1 | h1 | h1
  · have := Nat.pow_lt_pow_right (show 1 < 2 by omega) h1; omega
  · exact h1
  · have := Nat.pow_lt_pow_right (show 1 < 2 by omega) h1; omega
/-- The groups by a set of fences are those of the garden with these fences only. -/
theorem groups_cho {n : Nat} {fs : List (Int × Int)} (h : garE n fs = 0) (set : Nat) : groupsN n (cho fs set) (allM (cho fs set).length) = groupsN n fs set := by
  obtain ⟨a0, aN⟩ := groups_num h set
  obtain ⟨b0, bN⟩ := groups_num (cho_gar h set) (allM (cho fs set).length)
  have e : numC n (cho fs set) (allM (cho fs set).length) (cho fs set).length = numC n fs set fs.length := by
    unfold numC
    congr 1
    funext x
    rw [Bool.eq_iff_iff, clK_clo, clK_clo, cho_all]
  rw [e, aN] at bN
  have := pow_inj bN
  omega
/-! ### the rank -/
def rk (n : Nat) (fs : List (Int × Int)) (set : Nat) : Int := n - groupsN n fs set
theorem rk_zero (n : Nat) (fs : List (Int × Int)) : rk n fs 0 = 0 := by
  have : ∀ k, (gSt n fs 0 k).2 = n := by
    intro k
    induction k with
    | zero => rfl
    | succ k ih =>
      unfold gSt
      simp only [Nat.zero_testBit, true_or, if_true]
      exact ih
  unfold rk groupsN
  rw [this]
  omega
/-- Some set that no fence of S leaves is left by the fence i. -/
def Sep (n : Nat) (fs : List (Int × Int)) (S i : Nat) : Prop := ∃ y, y < 2 ^ n ∧ clK fs S fs.length y = true ∧ crs fs y i = true
theorem clK_xor {fs : List (Int × Int)} {S x y : Nat} (hy : clK fs S fs.length y = true) : clK fs S fs.length (x ^^^ y) = clK fs S fs.length x := by
  rw [cl_iff] at hy
  rw [Bool.eq_iff_iff, cl_iff, cl_iff]
  have e : ∀ j, crs fs (x ^^^ y) j = (crs fs x j != crs fs y j) := fun j => by
    unfold crs
    rw [Nat.testBit_xor, Nat.testBit_xor]
    cases x.testBit (fA fs j) <;> cases x.testBit (fC fs j) <;> cases y.testBit (fA fs j) <;> cases y.testBit (fC fs j) <;> rfl
  constructor
  · intro h j h1 h2
    have := h j h1 h2
    rw [e, hy j h1 h2] at this
    simpa using this
  · intro h j h1 h2
    rw [e, hy j h1 h2, h j h1 h2]; rfl
theorem clK_more {fs : List (Int × Int)} {S i : Nat} (hi : i < fs.length) (x : Nat) : clK fs (S ||| 2 ^ i) fs.length x = (clK fs S fs.length x && !crs fs x i) := by
  rw [Bool.eq_iff_iff, Bool.and_eq_true, cl_iff, cl_iff]
  constructor
  · intro h
    refine ⟨fun j h1 h2 => h j h1 (by rw [Nat.testBit_or, h2, Bool.true_or]), ?_⟩
    have := h i hi (by rw [Nat.testBit_or, Nat.testBit_two_pow_self, Bool.or_true])
    rw [this]; rfl
  · rintro ⟨h, h3⟩ j h1 h2
    rw [Nat.testBit_or, Nat.testBit_two_pow, Bool.or_eq_true, decide_eq_true_eq] at h2
    rcases h2 with h2 | rfl
    · exact h j h1 h2
    · simpa using h3
theorem two_pow_half {a b : Nat} (h : 2 ^ a = 2 * 2 ^ b) : a = b + 1 := pow_inj (by rw [h, Nat.pow_succ]; omega)
/-- One fence more. -/
theorem rk_more {n : Nat} {fs : List (Int × Int)} (h : garE n fs = 0) (S : Nat) {i : Nat} (hi : i < fs.length) : (Sep n fs S i → rk n fs (S ||| 2 ^ i) = rk n fs S + 1) ∧ (¬ Sep n fs S i → rk n fs (S ||| 2 ^ i) = rk n fs S) := by
  obtain ⟨a0, aN⟩ := groups_num h S
  obtain ⟨b0, bN⟩ := groups_num h (S ||| 2 ^ i)
  unfold numC at aN bN
  have hc : (List.range (2 ^ n)).countP (clK fs (S ||| 2 ^ i) fs.length) = (List.range (2 ^ n)).countP fun x => clK fs S fs.length x && !crs fs x i := by
    congr 1
    funext x
    exact clK_more hi x
  unfold rk
  constructor
  · rintro ⟨y, y1, y2, y3⟩
    have hh := half_count y1 (clK fs S fs.length) (fun x => !crs fs x i) (fun x => clK_xor y2) (fun x _ => by
      show (!crs fs (x ^^^ y) i) = !(!crs fs x i)
      have e : crs fs (x ^^^ y) i = (crs fs x i != crs fs y i) := by
        unfold crs
        rw [Nat.testBit_xor, Nat.testBit_xor]
        cases x.testBit (fA fs i) <;> cases x.testBit (fC fs i) <;> cases y.testBit (fA fs i) <;> cases y.testBit (fC fs i) <;> rfl
      rw [e, y3]
      cases crs fs x i <;> rfl)
    rw [← hc, aN, bN] at hh
    have := two_pow_half hh
    omega
  · intro hno
    have : (List.range (2 ^ n)).countP (clK fs S fs.length) = (List.range (2 ^ n)).countP fun x => clK fs S fs.length x && !crs fs x i := by
      refine List.countP_congr fun x hx => ?_
      cases hv : clK fs S fs.length x
      · simp
      · cases hv2 : crs fs x i
        · simp
        · exact absurd ⟨x, List.mem_range.1 hx, hv, hv2⟩ hno
    rw [← hc, aN, bN] at this
    have := pow_inj this
    omega
theorem Sep.less {n : Nat} {fs : List (Int × Int)} {S T i : Nat} (hST : ∀ j, S.testBit j = true → T.testBit j = true) (h : Sep n fs T i) : Sep n fs S i := by
  obtain ⟨y, y1, y2, y3⟩ := h
  refine ⟨y, y1, ?_, y3⟩
  rw [cl_iff] at y2 ⊢
  exact fun j h1 h2 => y2 j h1 (hST j h2)
theorem rk_step_le {n : Nat} {fs : List (Int × Int)} (h : garE n fs = 0) (S : Nat) {i : Nat} (hi : i < fs.length) : rk n fs S ≤ rk n fs (S ||| 2 ^ i) ∧ rk n fs (S ||| 2 ^ i) ≤ rk n fs S + 1 := by
  obtain ⟨h1, h2⟩ := rk_more h S hi
  by_cases e : Sep n fs S i
  · rw [h1 e]; omega
  · rw [h2 e]; omega
theorem mod_step (b k : Nat) : b % 2 ^ (k + 1) = if b.testBit k = true then b % 2 ^ k ||| 2 ^ k else b % 2 ^ k := by
  apply Nat.eq_of_testBit_eq
  intro j
  split
  · rename_i hb
    rw [Nat.testBit_or, Nat.testBit_mod_two_pow, Nat.testBit_mod_two_pow, Nat.testBit_two_pow]
    by_cases e : j = k
    · subst e; simp [hb]
    · have e1 : (k = j) = False := by simp; omega
      have e2 : decide (j < k + 1) = decide (j < k) := by rw [decide_eq_decide]; omega
      rw [e2]; simp [e1]
  · rename_i hb
    rw [Nat.testBit_mod_two_pow, Nat.testBit_mod_two_pow]
    by_cases e : j = k
    · subst e; simp at hb; simp [hb]
    · have e2 : decide (j < k + 1) = decide (j < k) := by rw [decide_eq_decide]; omega
      rw [e2]
/-- The rank is submodular. -/
theorem rk_sub {n : Nat} {fs : List (Int × Int)} (h : garE n fs = 0) (a b : Nat) (hb : b < 2 ^ fs.length) : rk n fs (a ||| b) + rk n fs (a &&& b) ≤ rk n fs a + rk n fs b := by
  have key : ∀ k, k ≤ fs.length → rk n fs (a ||| b % 2 ^ k) + rk n fs (a &&& b) ≤ rk n fs a + rk n fs ((a &&& b) ||| b % 2 ^ k) := by
    intro k
    induction k with
    | zero => intro _; rw [Nat.pow_zero, Nat.mod_one, Nat.or_zero, Nat.or_zero]; omega
    | succ k ih =>
      intro hk
      have ih := ih (by omega)
      rw [mod_step]
      split
      · rw [← Nat.or_assoc, ← Nat.or_assoc]
        obtain ⟨h1, h2⟩ := rk_more h (a ||| b % 2 ^ k) (show k < fs.length by omega)
        obtain ⟨h3, h4⟩ := rk_more h ((a &&& b) ||| b % 2 ^ k) (show k < fs.length by omega)
        by_cases e : Sep n fs (a ||| b % 2 ^ k) k
        · rw [h1 e, h3 (e.less fun j hj => by
            rw [Nat.testBit_or, Nat.testBit_and, Bool.or_eq_true, Bool.and_eq_true] at hj
            rw [Nat.testBit_or, Bool.or_eq_true]
            rcases hj with hj | hj
            · exact .inl hj.1
            · exact .inr hj)]
          omega
        · rw [h2 e]
          have := (rk_step_le h ((a &&& b) ||| b % 2 ^ k) (show k < fs.length by omega)).1
          omega
      · exact ih
  have h1 := key fs.length (Nat.le_refl _)
  rw [Nat.mod_eq_of_lt hb] at h1
  have e : (a &&& b) ||| b = b := by
    apply Nat.eq_of_testBit_eq
    intro j
    rw [Nat.testBit_or, Nat.testBit_and]
    cases a.testBit j <;> cases b.testBit j <;> rfl
  rw [e] at h1
  exact h1
/-- how many fences a set has. -/
def sizeTo (S : Nat) : Nat → Int
  | 0 => 0
  | k + 1 => sizeTo S k + if S.testBit k = true then 1 else 0
theorem rk_le {n : Nat} {fs : List (Int × Int)} (h : garE n fs = 0) (S : Nat) (hS : S < 2 ^ fs.length) : 0 ≤ rk n fs S ∧ rk n fs S ≤ sizeTo S fs.length := by
  have key : ∀ k, k ≤ fs.length → 0 ≤ rk n fs (S % 2 ^ k) ∧ rk n fs (S % 2 ^ k) ≤ sizeTo S k := by
    intro k
    induction k with
    | zero => intro _; rw [Nat.pow_zero, Nat.mod_one, rk_zero]; simp [sizeTo]
    | succ k ih =>
      intro hk
      have ih := ih (by omega)
      rw [mod_step]
      unfold sizeTo
      split
      · have := rk_step_le h (S % 2 ^ k) (show k < fs.length by omega)
        omega
      · omega
  have h1 := key fs.length (Nat.le_refl _)
  rwa [Nat.mod_eq_of_lt hS] at h1
end Go.Proofs.YtmepndnckcpgjaaGreat
