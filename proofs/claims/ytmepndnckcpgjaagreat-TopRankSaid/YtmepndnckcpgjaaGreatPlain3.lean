/- Plain laws: the cheapest parts of a group and the cheapest groups around it; the proving sharing. No condition. -/
import Derived.Test.YtmepndnckcpgjaaGreatPlain2
namespace Go.Proofs.YtmepndnckcpgjaaGreat

theorem mn_le_left (a b : Int) : mn a b ≤ a := by unfold mn; split <;> omega
theorem mn_le_right (a b : Int) : mn a b ≤ b := by unfold mn; split <;> omega
theorem mn_cases (a b : Int) : mn a b = a ∨ mn a b = b := by unfold mn; split <;> simp

theorem lowTo_le (xs : List Int) (k x : Nat) (hx : x < k) : lowTo xs k ≤ xs.getD x 0 := by
  induction k with
  | zero => omega
  | succ k ih =>
    show mn (lowTo xs k) (xs.getD k 0) ≤ _
    rcases Nat.lt_or_ge x k with h | h
    · exact Int.le_trans (mn_le_left _ _) (ih h)
    · obtain rfl : x = k := by omega
      exact mn_le_right _ _
theorem lowTo_mem (xs : List Int) (k : Nat) (hk : k ≤ xs.length) (h0 : 0 < xs.length) : ∃ x, x < xs.length ∧ lowTo xs k = xs.getD x 0 := by
  induction k with
  | zero => exact ⟨0, h0, rfl⟩
  | succ k ih =>
    obtain ⟨x, h1, h2⟩ := ih (by omega)
    rcases mn_cases (lowTo xs k) (xs.getD k 0) with h | h
    · exact ⟨x, h1, by show mn _ _ = _; rw [h, h2]⟩
    · exact ⟨k, by omega, by show mn _ _ = _; rw [h]⟩
theorem low_le (xs : List Int) (x : Nat) (hx : x < xs.length) : low xs ≤ xs.getD x 0 := lowTo_le xs _ x hx
theorem low_mem (xs : List Int) (h0 : 0 < xs.length) : ∃ x, x < xs.length ∧ low xs = xs.getD x 0 := lowTo_mem xs _ (Nat.le_refl _) h0

theorem innerTo_le (xs : List Int) (g k x : Nat) (hx : x < k) (h : x &&& g = x) : innerTo xs g k ≤ xs.getD x 0 := by
  induction k with
  | zero => omega
  | succ k ih =>
    show (if k &&& g = k then mn (innerTo xs g k) (xs.getD k 0) else innerTo xs g k) ≤ _
    rcases Nat.lt_or_ge x k with h' | h'
    · split
      · exact Int.le_trans (mn_le_left _ _) (ih h')
      · exact ih h'
    · obtain rfl : x = k := by omega
      rw [if_pos h]
      exact mn_le_right _ _
theorem innerTo_mem (xs : List Int) (g k : Nat) (hk : k ≤ xs.length) (h0 : 0 < xs.length) : ∃ x, x < xs.length ∧ x &&& g = x ∧ innerTo xs g k = xs.getD x 0 := by
  induction k with
  | zero => exact ⟨0, h0, by simp, rfl⟩
  | succ k ih =>
    obtain ⟨x, h1, h2, h3⟩ := ih (by omega)
    unfold innerTo
    split
    · rename_i hg
      rcases mn_cases (innerTo xs g k) (xs.getD k 0) with h | h
      · exact ⟨x, h1, h2, by rw [h, h3]⟩
      · exact ⟨k, by omega, hg, h⟩
    · exact ⟨x, h1, h2, h3⟩
theorem inner_le (xs : List Int) (g x : Nat) (hx : x < xs.length) (h : x &&& g = x) : inner xs g ≤ xs.getD x 0 := innerTo_le xs g _ x hx h
theorem inner_mem (xs : List Int) (g : Nat) (h0 : 0 < xs.length) : ∃ x, x < xs.length ∧ x &&& g = x ∧ inner xs g = xs.getD x 0 := innerTo_mem xs g _ (Nat.le_refl _) h0

theorem outerTo_le (xs : List Int) (g k x : Nat) (hx : x < k) (h : x &&& g = g) : outerTo xs g k ≤ xs.getD x 0 := by
  induction k with
  | zero => omega
  | succ k ih =>
    show (if k &&& g = g then mn (outerTo xs g k) (xs.getD k 0) else outerTo xs g k) ≤ _
    rcases Nat.lt_or_ge x k with h' | h'
    · split
      · exact Int.le_trans (mn_le_left _ _) (ih h')
      · exact ih h'
    · obtain rfl : x = k := by omega
      rw [if_pos h]
      exact mn_le_right _ _
theorem all_and : ∀ n, n ≤ 6 → ∀ g, g < 2 ^ n → (2 ^ n - 1) &&& g = g := by decide
theorem outerTo_mem (xs : List Int) (n g k : Nat) (hn : n ≤ 6) (hl : xs.length = 2 ^ n) (hg : g < 2 ^ n) (hk : k ≤ xs.length) : ∃ x, x < xs.length ∧ x &&& g = g ∧ outerTo xs g k = xs.getD x 0 := by
  induction k with
  | zero => exact ⟨xs.length - 1, by omega, by rw [hl]; exact all_and n hn g hg, rfl⟩
  | succ k ih =>
    obtain ⟨x, h1, h2, h3⟩ := ih (by omega)
    unfold outerTo
    split
    · rename_i hg'
      rcases mn_cases (outerTo xs g k) (xs.getD k 0) with h | h
      · exact ⟨x, h1, h2, by rw [h, h3]⟩
      · exact ⟨k, by omega, hg', h⟩
    · exact ⟨x, h1, h2, h3⟩
theorem outer_le (xs : List Int) (g x : Nat) (hx : x < xs.length) (h : x &&& g = g) : outer xs g ≤ xs.getD x 0 := outerTo_le xs g _ x hx h
theorem outer_mem (xs : List Int) (n g : Nat) (hn : n ≤ 6) (hl : xs.length = 2 ^ n) (hg : g < 2 ^ n) : ∃ x, x < xs.length ∧ x &&& g = g ∧ outer xs g = xs.getD x 0 :=
  outerTo_mem xs n g _ hn hl hg (Nat.le_refl _)
theorem inner_in (xs : List Int) (hb : Bnd xs) (g : Nat) (h0 : 0 < xs.length) : -1000000 ≤ inner xs g ∧ inner xs g ≤ 1000000 := by
  obtain ⟨x, _, _, h⟩ := inner_mem xs g h0
  rw [h]; exact hb x
theorem outer_in (xs : List Int) (hb : Bnd xs) (n g : Nat) (hn : n ≤ 6) (hl : xs.length = 2 ^ n) (hg : g < 2 ^ n) : -1000000 ≤ outer xs g ∧ outer xs g ≤ 1000000 := by
  obtain ⟨x, _, _, h⟩ := outer_mem xs n g hn hl hg
  rw [h]; exact hb x

/-- What gardener i pays in the proving sharing (S: the least group). -/
def proofAt (n : Nat) (xs : List Int) (S i : Nat) : Int :=
  if S.testBit i then inner xs ((2 ^ n - 2 ^ i) &&& S) - inner xs ((2 ^ n - 2 ^ (i + 1)) &&& S)
  else outer xs (S ||| (2 ^ n - 2 ^ i)) - outer xs (S ||| (2 ^ n - 2 ^ (i + 1)))
def proofL (n : Nat) (xs : List Int) : List Int := (List.range n).map (proofAt n xs (small xs))
/-- The first k are reckoned, the others not yet. -/
def proofTo (n : Nat) (xs : List Int) (S k : Nat) : List Int := (List.range n).map fun i => if i < k then proofAt n xs S i else 0
theorem proofTo_len (n : Nat) (xs : List Int) (S k : Nat) : (proofTo n xs S k).length = n := by simp [proofTo]
theorem proofTo_zero (n : Nat) (xs : List Int) (S : Nat) : proofTo n xs S 0 = List.replicate n 0 := by
  apply List.ext_getElem
  · simp [proofTo]
  · intro i h1 h2; simp [proofTo]
theorem proofTo_all (n : Nat) (xs : List Int) : proofTo n xs (small xs) n = proofL n xs := by
  apply List.ext_getElem
  · simp [proofTo, proofL]
  · intro i h1 h2
    simp only [proofTo, proofL, List.length_map, List.length_range, List.getElem_map, List.getElem_range] at h1 ⊢
    rw [if_pos h1]
theorem proofTo_succ (n : Nat) (xs : List Int) (S k : Nat) : (proofTo n xs S k).set k (proofAt n xs S k) = proofTo n xs S (k + 1) := by
  apply List.ext_getElem
  · simp [proofTo]
  · intro i h1 h2
    simp only [proofTo, List.getElem_set, List.getElem_map, List.getElem_range]
    by_cases h : k = i
    · subst h; simp
    · rw [if_neg h]
      by_cases h' : i < k
      · rw [if_pos h', if_pos (by omega)]
      · rw [if_neg h', if_neg (by omega)]
theorem left_step : ∀ n, n ≤ 6 → ∀ i, i < n → 2 ^ n - 2 ^ i = (2 ^ n - 2 ^ (i + 1)) + 2 ^ i ∧ 2 ^ i ≤ 2 ^ n - 2 ^ i := by decide
theorem left_in : ∀ n, n ≤ 6 → ∀ i, i < n → ∀ S, S < 64 → S.testBit i = true → ((2 ^ n - 2 ^ (i + 1)) &&& S) + 2 ^ i = (2 ^ n - 2 ^ i) &&& S := by decide
theorem left_out : ∀ n, n ≤ 6 → ∀ i, i < n → ∀ S, S < 64 → (2 ^ n - 2 ^ (i + 1)) ||| S ||| 2 ^ i = S ||| (2 ^ n - 2 ^ i) := by decide
theorem small_lt (xs : List Int) (h0 : 0 < xs.length) : small xs < xs.length := by
  have := smallTo_le xs (low xs) xs.length
  unfold small; omega
def proofErr (n : Int) (xs : List Int) : Int := asked n xs
def proofR (n : Int) (xs : List Int) : List Int := if asked n xs = 0 then proofL n.toNat xs else []
end Go.Proofs.YtmepndnckcpgjaaGreat
