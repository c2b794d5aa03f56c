/- Plain laws: what groups pay is modular; the greedy sharing of a submodular cost is fair, and lexicographically least. No condition. -/
import Derived.Test.YtpehhbiodmgjeaaPlain5
import Derived.Test.YtpehhbiodmgjeaaPlain7
namespace Go.Proofs.Ytpehhbiodmgjeaa

theorem payTo_mod (l : List Int) (a b k : Nat) : payTo l (a ||| b) k + payTo l (a &&& b) k = payTo l a k + payTo l b k := by
  induction k with
  | zero => rfl
  | succ k ih =>
    simp only [payTo, Nat.testBit_or, Nat.testBit_and]
    cases a.testBit k <;> cases b.testBit k <;> simp <;> omega
theorem pay_mod (l : List Int) (a b : Nat) : pay l (a ||| b) + pay l (a &&& b) = pay l a + pay l b := payTo_mod l a b _
theorem payTo_zero (l : List Int) (k : Nat) : payTo l 0 k = 0 := by
  induction k with
  | zero => rfl
  | succ k ih => simp [payTo, ih]
theorem pay_zero (l : List Int) : pay l 0 = 0 := payTo_zero l _
theorem belowTo_le (l : List Int) (a k : Nat) : belowTo l k ≤ payTo l a k := by
  induction k with
  | zero => exact Int.le_refl _
  | succ k ih =>
    have e1 : belowTo l (k + 1) = belowTo l k + mn (l.getD k 0) 0 := rfl
    have e2 : payTo l a (k + 1) = payTo l a k + if a.testBit k then l.getD k 0 else 0 := rfl
    have h1 := mn_le_left (l.getD k 0) 0
    have h2 := mn_le_right (l.getD k 0) 0
    rw [e1, e2]
    split <;> omega
/-- What is paid below 0 is at most what any group pays. -/
theorem below_le (l : List Int) (a : Nat) : belowS l ≤ pay l a := belowTo_le l a _
/-- Where it is just what S pays, S pays at most 0 each and the others at least 0. -/
theorem below_tight (l : List Int) (S k : Nat) (h : payTo l S k ≤ belowTo l k) : ∀ i, i < k → (S.testBit i = true → l.getD i 0 ≤ 0) ∧ (S.testBit i = false → 0 ≤ l.getD i 0) := by
  induction k with
  | zero => intro i hi; omega
  | succ k ih =>
    have e1 : belowTo l (k + 1) = belowTo l k + mn (l.getD k 0) 0 := rfl
    have e2 : payTo l S (k + 1) = payTo l S k + if S.testBit k then l.getD k 0 else 0 := rfl
    have h0 := belowTo_le l S k
    have h1 := mn_le_left (l.getD k 0) 0
    have h2 := mn_le_right (l.getD k 0) 0
    have h3 := mn_cases (l.getD k 0) 0
    rw [e1, e2] at h
    intro i hi
    by_cases hik : i = k
    · subst hik
      constructor
      · intro hb
        rw [if_pos hb] at h
        omega
      · intro hb
        rw [hb, if_neg (by simp)] at h
        omega
    · refine ih ?_ i (by omega)
      cases hb : S.testBit k
      · rw [hb, if_neg (by simp)] at h; omega
      · rw [hb, if_pos rfl] at h; omega
theorem below_of_signs (l : List Int) (S k : Nat) (h : ∀ i, i < k → (S.testBit i = true → l.getD i 0 ≤ 0) ∧ (S.testBit i = false → 0 ≤ l.getD i 0)) : belowTo l k = payTo l S k := by
  induction k with
  | zero => rfl
  | succ k ih =>
    have e1 : belowTo l (k + 1) = belowTo l k + mn (l.getD k 0) 0 := rfl
    have e2 : payTo l S (k + 1) = payTo l S k + if S.testBit k then l.getD k 0 else 0 := rfl
    obtain ⟨h1, h2⟩ := h k (by omega)
    have h3 := mn_cases (l.getD k 0) 0
    have h4 := mn_le_left (l.getD k 0) 0
    have h5 := mn_le_right (l.getD k 0) 0
    rw [e1, e2, ih fun i hi => h i (by omega)]
    cases hb : S.testBit k
    · rw [if_neg (by simp)]
      have := h2 hb
      omega
    · rw [if_pos rfl]
      have := h1 hb
      omega
/-- A part of a group pays at least as much where nobody outside of it pays more than 0. -/
theorem payTo_mono (l : List Int) (x a k : Nat) (hx : ∀ i, x.testBit i = true → a.testBit i = true) (h : ∀ i, i < k → a.testBit i = true → x.testBit i = false → l.getD i 0 ≤ 0) : payTo l a k ≤ payTo l x k := by
  induction k with
  | zero => exact Int.le_refl _
  | succ k ih =>
    have e1 : payTo l a (k + 1) = payTo l a k + if a.testBit k then l.getD k 0 else 0 := rfl
    have e2 : payTo l x (k + 1) = payTo l x k + if x.testBit k then l.getD k 0 else 0 := rfl
    have h0 := ih fun i hi => h i (by omega)
    have h1 := h k (by omega)
    have h2 := hx k
    rw [e1, e2]
    clear h ih hx
    generalize l.getD k 0 = v at *
    cases ha : a.testBit k <;> cases hb : x.testBit k <;> rw [ha, hb] at h1 h2 <;> simp at h1 h2 ⊢ <;> omega
theorem payTo_anti (l : List Int) (a y k : Nat) (hx : ∀ i, a.testBit i = true → y.testBit i = true) (h : ∀ i, i < k → y.testBit i = true → a.testBit i = false → 0 ≤ l.getD i 0) : payTo l a k ≤ payTo l y k := by
  induction k with
  | zero => exact Int.le_refl _
  | succ k ih =>
    have e1 : payTo l a (k + 1) = payTo l a k + if a.testBit k then l.getD k 0 else 0 := rfl
    have e2 : payTo l y (k + 1) = payTo l y k + if y.testBit k then l.getD k 0 else 0 := rfl
    have h0 := ih fun i hi => h i (by omega)
    have h1 := h k (by omega)
    have h2 := hx k
    rw [e1, e2]
    clear h ih hx
    generalize l.getD k 0 = v at *
    cases ha : a.testBit k <;> cases hb : y.testBit k <;> rw [ha, hb] at h1 h2 <;> simp at h1 h2 ⊢ <;> omega

/-! ### Greedy, the last one first -/
/-- A cost of groups that is submodular. -/
def SubF (n : Nat) (H : Nat → Int) : Prop := ∀ a b, a < 2 ^ n → b < 2 ^ n → H (a ||| b) + H (a &&& b) ≤ H a + H b
def tail (n i : Nat) : Nat := 2 ^ n - 2 ^ i
theorem tail_bits : ∀ n, n ≤ 6 → ∀ i, i ≤ n → ∀ j, j < 7 → (tail n i).testBit j = (decide (i ≤ j) && decide (j < n)) := by decide +kernel
theorem tail_lt : ∀ n, n ≤ 6 → ∀ i, i ≤ n → tail n i < 2 ^ n := by decide
theorem tail_step : ∀ n, n ≤ 6 → ∀ i, i < n → ∀ a, a < 64 → (a.testBit i = true → (a &&& tail n i) ||| tail n (i + 1) = tail n i ∧ (a &&& tail n i) &&& tail n (i + 1) = a &&& tail n (i + 1)) ∧ (a.testBit i = false → a &&& tail n i = a &&& tail n (i + 1)) := by decide +kernel
theorem tail_all : ∀ n, n ≤ 6 → ∀ a, a < 2 ^ n → a &&& tail n 0 = a := by decide +kernel
theorem and_lt_pow {a b n : Nat} (h : a < 2 ^ n) : a &&& b < 2 ^ n := Nat.lt_of_le_of_lt Nat.and_le_left h

/-- p is what each pays who comes after all with a greater number. -/
def IsRev (n : Nat) (H : Nat → Int) (p : List Int) : Prop := p.length = n ∧ ∀ i, i < n → p.getD i 0 = H (tail n i) - H (tail n (i + 1))
section
variable {n : Nat} {H : Nat → Int} {p l : List Int}
theorem rev_le (hn : n ≤ 6) (hs : SubF n H) (hp : IsRev n H p) (a : Nat) (ha : a < 2 ^ n) : pay p a ≤ H a - H 0 := by
  obtain ⟨hl, hp⟩ := hp
  have h64 : a < 64 := Nat.lt_of_lt_of_le ha (Nat.le_trans (Nat.pow_le_pow_right (by omega) hn) (by decide))
  have key : ∀ d, d ≤ n → pay p a - payTo p a (n - d) ≤ H (a &&& tail n (n - d)) - H 0 := by
    intro d
    induction d with
    | zero =>
      intro _
      unfold pay
      rw [hl]
      simp [tail]
    | succ d ih =>
      intro hd
      have h1 := ih (by omega)
      have e : n - d = (n - (d + 1)) + 1 := by omega
      rw [e] at h1
      generalize n - (d + 1) = i at *
      have hi : i < n := by omega
      have e2 : payTo p a (i + 1) = payTo p a i + if a.testBit i then p.getD i 0 else 0 := rfl
      obtain ⟨t1, t2⟩ := tail_step n hn i hi a h64
      rw [e2] at h1
      cases hb : a.testBit i
      · rw [hb, if_neg (by simp)] at h1
        rw [t2 hb]; omega
      · rw [hb, if_pos rfl, hp i hi] at h1
        obtain ⟨t3, t4⟩ := t1 hb
        have := hs (a &&& tail n i) (tail n (i + 1)) (and_lt_pow ha) (tail_lt n hn (i + 1) (by omega))
        rw [t3, t4] at this
        omega
  have := key n (Nat.le_refl _)
  rw [Nat.sub_self, tail_all n hn a ha] at this
  have e : payTo p a 0 = 0 := rfl
  omega
theorem rev_pre (hn : n ≤ 6) (hp : IsRev n H p) (k : Nat) (hk : k ≤ n) : payTo p (tail n 0) k = H (tail n 0) - H (tail n k) := by
  obtain ⟨hl, hp⟩ := hp
  induction k with
  | zero => simp [payTo]
  | succ k ih =>
    have e : payTo p (tail n 0) (k + 1) = payTo p (tail n 0) k + if (tail n 0).testBit k then p.getD k 0 else 0 := rfl
    rw [e, ih (by omega), tail_bits n hn 0 (by omega) k (by omega)]
    rw [if_pos (by simp; omega), hp k (by omega)]
    omega
theorem rev_all (hn : n ≤ 6) (hp : IsRev n H p) : pay p (tail n 0) = H (tail n 0) - H 0 := by
  unfold pay
  rw [hp.1, rev_pre hn hp n (Nat.le_refl _)]
  simp [tail]
theorem pay_tail (hn : n ≤ 6) (hl : l.length = n) (k : Nat) (hk : k ≤ n) : pay l (tail n k) = pay l (tail n 0) - payTo l (tail n 0) k := by
  have key : ∀ m, m ≤ n → payTo l (tail n k) m = if m ≤ k then 0 else payTo l (tail n 0) m - payTo l (tail n 0) k := by
    intro m
    induction m with
    | zero => intro _; simp [payTo]
    | succ m ih =>
      intro hm
      have e1 : payTo l (tail n k) (m + 1) = payTo l (tail n k) m + if (tail n k).testBit m then l.getD m 0 else 0 := rfl
      have e2 : payTo l (tail n 0) (m + 1) = payTo l (tail n 0) m + if (tail n 0).testBit m then l.getD m 0 else 0 := rfl
      rw [e1, ih (by omega), tail_bits n hn k hk m (by omega)]
      by_cases h : m + 1 ≤ k
      · rw [if_pos (by omega), if_pos h, if_neg (by simp; omega)]; rfl
      · rw [if_neg h, e2, tail_bits n hn 0 (by omega) m (by omega)]
        rw [if_pos (show ((decide (0 ≤ m) && decide (m < n)) = true) by simp; omega)]
        rw [if_pos (show ((decide (k ≤ m) && decide (m < n)) = true) by simp; omega)]
        by_cases hmk : m ≤ k
        · obtain rfl : m = k := by omega
          rw [if_pos (by omega)]; omega
        · rw [if_neg hmk]; omega
  have := key n (Nat.le_refl _)
  unfold pay
  rw [hl, this]
  by_cases h : n ≤ k
  · obtain rfl : k = n := by omega
    rw [if_pos h]; omega
  · rw [if_neg h]
/-- The first place where l is not p: there l is greater. -/
theorem rev_lex (hn : n ≤ 6) (hp : IsRev n H p) (hl : l.length = n) (hle : ∀ a, a < 2 ^ n → pay l a ≤ H a) (hall : pay l (tail n 0) = H (tail n 0))
    (i : Nat) (hi : i < n) (hsame : ∀ j, j < i → l.getD j 0 = p.getD j 0) : p.getD i 0 ≤ l.getD i 0 := by
  have same : ∀ k, k ≤ i → payTo l (tail n 0) k = payTo p (tail n 0) k := by
    intro k
    induction k with
    | zero => intro _; rfl
    | succ k ih =>
      intro hk
      have e1 : payTo l (tail n 0) (k + 1) = payTo l (tail n 0) k + if (tail n 0).testBit k then l.getD k 0 else 0 := rfl
      have e2 : payTo p (tail n 0) (k + 1) = payTo p (tail n 0) k + if (tail n 0).testBit k then p.getD k 0 else 0 := rfl
      rw [e1, e2, ih (by omega), hsame k (by omega)]
  have h1 := pay_tail hn hl (i + 1) (by omega)
  have h2 := hle (tail n (i + 1)) (tail_lt n hn (i + 1) (by omega))
  have e1 : payTo l (tail n 0) (i + 1) = payTo l (tail n 0) i + if (tail n 0).testBit i then l.getD i 0 else 0 := rfl
  rw [tail_bits n hn 0 (by omega) i (by omega), if_pos (by simp; omega), same i (Nat.le_refl _), rev_pre hn hp i (by omega)] at e1
  rw [hp.2 i hi]
  omega
end

/-- The lexicographic order, as the statements have it. -/
def bfr : List Int → List Int → Bool
  | a :: as, b :: bs => if a = b then bfr as bs else decide (a < b)
  | _, _ => false
theorem bfr_false {l p : List Int} (h : ∀ i, i < l.length → i < p.length → (∀ j, j < i → l.getD j 0 = p.getD j 0) → p.getD i 0 ≤ l.getD i 0) : bfr l p = false := by
  induction l generalizing p with
  | nil => rfl
  | cons a as ih =>
    cases p with
    | nil => rfl
    | cons b bs =>
      have h0 := h 0 (by simp) (by simp) (fun j hj => by omega)
      simp only [List.getD_cons_zero] at h0
      unfold bfr
      split
      · rename_i he
        subst he
        refine ih fun i h1 h2 hs => ?_
        have := h (i + 1) (by simpa using h1) (by simpa using h2) (fun j hj => by
          cases j with
          | zero => rfl
          | succ j => simpa using hs j (by omega))
        simpa using this
      · exact decide_eq_false (by omega)
end Go.Proofs.Ytpehhbiodmgjeaa
