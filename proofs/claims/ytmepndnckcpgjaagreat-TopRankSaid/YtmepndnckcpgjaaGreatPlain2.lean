/- Plain laws: orders of gardeners, weights and levels. No condition. -/
import Derived.Test.YtmepndnckcpgjaaGreatPlain
namespace Go.Proofs.YtmepndnckcpgjaaGreat

/-! ### Orders -/
def seenTo (os : List Int) : Nat → Nat
  | 0 => 0
  | k + 1 => seenTo os k ||| 2 ^ (os.getD k 0).toNat
def okAt (n : Nat) (os : List Int) (k : Nat) : Prop := 0 ≤ os.getD k 0 ∧ os.getD k 0 < n ∧ (seenTo os k).testBit (os.getD k 0).toNat = false
instance (n : Nat) (os : List Int) (k : Nat) : Decidable (okAt n os k) := by unfold okAt; exact inferInstance
def ordOk (n : Nat) (os : List Int) : Bool := decide (os.length = n) && (List.range n).all fun k => decide (okAt n os k)

def pop : Nat → Nat → Nat
  | 0, _ => 0
  | f + 1, s => s % 2 + pop f (s / 2)
theorem pop_set : ∀ s, s < 64 → ∀ i, i < 6 → s.testBit i = false → pop 6 (s ||| 2 ^ i) = pop 6 s + 1 := by decide
theorem pop_full : ∀ n, n ≤ 6 → pop 6 (2 ^ n - 1) = n := by decide
theorem pop_only : ∀ n, n ≤ 6 → ∀ s, s < 2 ^ n → pop 6 s = n → s = 2 ^ n - 1 := by decide
theorem bit_and : ∀ s, s < 64 → ∀ i, i < 6 → decide (s &&& 2 ^ i = 0) = !s.testBit i := by decide
theorem bit_div : ∀ s, s < 64 → ∀ i, i < 6 → decide (s / 2 ^ i % 2 = 1) = s.testBit i := by decide
theorem bit_add : ∀ a, a < 64 → ∀ i, i < 6 → a.testBit i = false → a + 2 ^ i = a ||| 2 ^ i := by decide
theorem low_add : ∀ i, i < 6 → ∀ a, a < 2 ^ i → a + 2 ^ i = a ||| 2 ^ i := by decide

theorem seenTo_lt (n : Nat) (os : List Int) (k : Nat) (h : ∀ j, j < k → okAt n os j) : seenTo os k < 2 ^ n := by
  induction k with
  | zero => exact Nat.pow_pos (by omega)
  | succ k ih =>
    obtain ⟨h1, h2, _⟩ := h k (by omega)
    exact Nat.or_lt_two_pow (ih fun j hj => h j (by omega)) (Nat.pow_lt_pow_right (by omega) (by omega))
theorem seenTo_pop (n : Nat) (hn : n ≤ 6) (os : List Int) (k : Nat) (h : ∀ j, j < k → okAt n os j) : pop 6 (seenTo os k) = k := by
  induction k with
  | zero => show pop 6 0 = 0; decide
  | succ k ih =>
    obtain ⟨h1, h2, h3⟩ := h k (by omega)
    have h4 := seenTo_lt n os k fun j hj => h j (by omega)
    have h5 : 2 ^ n ≤ 64 := Nat.le_trans (Nat.pow_le_pow_right (by omega) hn) (by decide)
    show pop 6 (seenTo os k ||| 2 ^ (os.getD k 0).toNat) = _
    rw [pop_set _ (by omega) _ (by omega) h3, ih fun j hj => h j (by omega)]
/-- The program's way: all are new, and all have come. -/
theorem ordOk_all (n : Nat) (hn : n ≤ 6) (os : List Int) (h : ∀ j, j < os.length → okAt n os j) : ordOk n os = decide (seenTo os os.length = 2 ^ n - 1) := by
  have hp := seenTo_pop n hn os os.length h
  have hl := seenTo_lt n os os.length h
  by_cases hc : os.length = n
  · have e1 : ordOk n os = true := by
      unfold ordOk
      simp only [hc, decide_true, Bool.true_and, List.all_eq_true, List.mem_range, decide_eq_true_eq]
      intro k hk
      exact h k (by omega)
    rw [e1, pop_only n hn _ hl (by omega)]
    simp
  · have e1 : ordOk n os = false := by simp [ordOk, hc]
    rw [e1]
    symm
    apply decide_eq_false
    intro e
    rw [e, pop_full n hn] at hp
    omega
theorem ordOk_bad (n : Nat) (os : List Int) (k : Nat) (hk : k < os.length) (h : ¬ okAt n os k) : ordOk n os = false := by
  unfold ordOk
  by_cases hc : os.length = n
  · simp only [hc, decide_true, Bool.true_and, List.all_eq_false, List.mem_range]
    exact ⟨k, by omega, by simpa using h⟩
  · simp [hc]
theorem ordOk_facts {n : Nat} {os : List Int} (h : ordOk n os = true) : os.length = n ∧ ∀ k, k < n → okAt n os k := by
  unfold ordOk at h
  simp only [Bool.and_eq_true, decide_eq_true_eq, List.all_eq_true, List.mem_range] at h
  exact h
theorem seenTo_bit (os : List Int) (k j : Nat) (hj : j < k) : (seenTo os k).testBit (os.getD j 0).toNat = true := by
  induction k with
  | zero => omega
  | succ k ih =>
    show (seenTo os k ||| 2 ^ (os.getD k 0).toNat).testBit _ = true
    rw [Nat.testBit_or]
    rcases Nat.lt_or_ge j k with h | h
    · rw [ih h]; rfl
    · obtain rfl : j = k := by omega
      rw [Nat.testBit_two_pow]; simp
theorem ordOk_nodup {n : Nat} {os : List Int} (h : ordOk n os = true) : (os.map Int.toNat).Nodup := by
  obtain ⟨hl, hk⟩ := ordOk_facts h
  unfold List.Nodup
  rw [List.pairwise_iff_getElem]
  intro i j hi hj hij he
  rw [List.length_map] at hi hj
  rw [List.getElem_map, List.getElem_map] at he
  obtain ⟨_, _, h3⟩ := hk j (by omega)
  have h4 := seenTo_bit os j i hij
  rw [List.getD_eq_getElem?_getD, List.getElem?_eq_getElem hj, Option.getD_some] at h3
  rw [List.getD_eq_getElem?_getD, List.getElem?_eq_getElem hi, Option.getD_some, he] at h4
  rw [h3] at h4
  cases h4

/-! ### Weights -/
def outW (x : Int) : Bool := decide (x < 0) || decide (1000 < x)
def wOk (n : Nat) (ws : List Int) : Bool := decide (ws.length = n) && !ws.any outW
theorem wOk_facts {n : Nat} {ws : List Int} (h : wOk n ws = true) : ws.length = n ∧ ∀ j, 0 ≤ ws.getD j 0 ∧ ws.getD j 0 ≤ 1000 := by
  unfold wOk at h
  simp only [Bool.and_eq_true, decide_eq_true_eq, Bool.not_eq_true', List.any_eq_false] at h
  refine ⟨h.1, fun j => ?_⟩
  by_cases hj : j < ws.length
  · have := h.2 _ (List.getElem_mem hj)
    simp only [outW, Bool.or_eq_true, decide_eq_true_eq, not_or] at this
    simp only [List.getD_eq_getElem?_getD, List.getElem?_eq_getElem hj, Option.getD_some]
    omega
  · simp only [List.getD_eq_getElem?_getD, List.getElem?_eq_none (by omega : ws.length ≤ j), Option.getD_none]
    omega
def mx (a b : Int) : Int := if a < b then b else a
def highTo (xs : List Int) : Nat → Int
  | 0 => xs.getD 0 0
  | k + 1 => mx (highTo xs k) (xs.getD k 0)
def high (xs : List Int) : Int := highTo xs xs.length
theorem highTo_ge (xs : List Int) (k j : Nat) (hj : j < k) : xs.getD j 0 ≤ highTo xs k := by
  induction k with
  | zero => omega
  | succ k ih =>
    have h1 : highTo xs (k + 1) = mx (highTo xs k) (xs.getD k 0) := rfl
    rw [h1]
    unfold mx
    rcases Nat.lt_or_ge j k with h | h
    · have := ih h
      split <;> omega
    · obtain rfl : j = k := by omega
      split <;> omega
theorem highTo_in (xs : List Int) (k : Nat) (lo hi : Int) (h : ∀ j, lo ≤ xs.getD j 0 ∧ xs.getD j 0 ≤ hi) : lo ≤ highTo xs k ∧ highTo xs k ≤ hi := by
  induction k with
  | zero => exact h 0
  | succ k ih =>
    have h1 : highTo xs (k + 1) = mx (highTo xs k) (xs.getD k 0) := rfl
    have h2 := h k
    rw [h1]
    unfold mx
    split <;> omega

/-- The group of the first k with a weight of at least t. -/
def grpTo (ws : List Int) (t : Int) : Nat → Nat
  | 0 => 0
  | k + 1 => if t ≤ ws.getD k 0 then grpTo ws t k ||| 2 ^ k else grpTo ws t k
theorem grpTo_lt (ws : List Int) (t : Int) (k : Nat) : grpTo ws t k < 2 ^ k := by
  induction k with
  | zero => exact Nat.one_pos
  | succ k ih =>
    have h : 2 ^ k < 2 ^ (k + 1) := Nat.pow_lt_pow_right (by omega) (by omega)
    unfold grpTo
    split
    · exact Nat.or_lt_two_pow (by omega) h
    · omega
theorem grpTo_none (ws : List Int) (t : Int) (k : Nat) (h : ∀ j, j < k → ws.getD j 0 < t) : grpTo ws t k = 0 := by
  induction k with
  | zero => rfl
  | succ k ih =>
    unfold grpTo
    rw [if_neg (by have := h k (by omega); omega)]
    exact ih fun j hj => h j (by omega)
/-- The sum of the costs of the levels 1 to t. -/
def fillsTo (xs ws : List Int) : Nat → Int
  | 0 => 0
  | t + 1 => fillsTo xs ws t + xs.getD (grpTo ws ((t : Int) + 1) ws.length) 0
theorem fillsTo_in (xs ws : List Int) (hb : Bnd xs) (t : Nat) : -1000000 * (t : Int) ≤ fillsTo xs ws t ∧ fillsTo xs ws t ≤ 1000000 * (t : Int) := by
  induction t with
  | zero => simp [fillsTo]
  | succ t ih =>
    have h1 : fillsTo xs ws (t + 1) = fillsTo xs ws t + xs.getD (grpTo ws ((t : Int) + 1) ws.length) 0 := rfl
    have h2 := hb (grpTo ws ((t : Int) + 1) ws.length)
    rw [h1]
    omega
def fills (xs ws : List Int) : Int := fillsTo xs ws 1000
/-- Above the greatest weight there is nothing. -/
theorem fillsTo_high (xs ws : List Int) (h0 : xs.getD 0 0 = 0) (T t : Nat) (hT : high ws ≤ T) (h : T ≤ t) : fillsTo xs ws t = fillsTo xs ws T := by
  induction t with
  | zero => rw [show T = 0 by omega]
  | succ t ih =>
    rcases Nat.lt_or_ge T (t + 1) with hlt | hge
    · have h1 : fillsTo xs ws (t + 1) = fillsTo xs ws t + xs.getD (grpTo ws ((t : Int) + 1) ws.length) 0 := rfl
      rw [h1, grpTo_none _ _ _ (fun j hj => by have := highTo_ge ws ws.length j hj; unfold high at hT; omega), h0, ih (by omega)]
      omega
    · rw [show T = t + 1 by omega]
def fillsErr (n : Int) (xs ws : List Int) : Int := if costOk n xs && wOk n.toNat ws then 0 else 2
def fillsR (n : Int) (xs ws : List Int) : Int := if costOk n xs && wOk n.toNat ws then fills xs ws else 0
end Go.Proofs.YtmepndnckcpgjaaGreat
