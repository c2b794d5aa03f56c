/- Plain laws: parts of a group counted downwards; the proving sharing as two greedy ones. No condition. -/
import Derived.Test.YtmepndnckcpgjaaGreatPlain3
import Derived.KernelRfl
namespace Go.Proofs.YtmepndnckcpgjaaGreat

/-- a without b, on bits. -/
def nd (a b : Nat) : Nat := a ^^^ (a &&& b)
theorem nd_testBit (a b i : Nat) : (nd a b).testBit i = (a.testBit i && !b.testBit i) := by
  unfold nd
  rw [Nat.testBit_xor, Nat.testBit_and]
  cases a.testBit i <;> cases b.testBit i <;> rfl
theorem nd_le (a b : Nat) (n : Nat) (h : a < 2 ^ n) : nd a b < 2 ^ n := Nat.xor_lt_two_pow h (Nat.lt_of_le_of_lt Nat.and_le_left h)

def subChk (a s : Nat) : Bool := !(s &&& a == s) || (List.range 64).all fun x => !(x &&& a == x) || !(decide (x < s)) || decide (x ≤ (s - 1) &&& a)
theorem subChk_all : ∀ a, a < 64 → ∀ s, s < 64 → subChk a s = true := by decide +kernel
theorem sub_next (a : Nat) (h : a < 64) (s : Nat) (h1 : s < 64) (h2 : s &&& a = s) (x : Nat) (h3 : x < 64) (h4 : x &&& a = x) (h5 : x < s) : x ≤ (s - 1) &&& a := by
  have := subChk_all a h s h1
  simp only [subChk, h2, beq_self_eq_true, Bool.not_true, Bool.false_or, List.all_eq_true, List.mem_range] at this
  have := this x h3
  simpa [h4, h5] using this
theorem sub_and : ∀ a, a < 64 → ∀ s, s < 64 → ((s - 1) &&& a) &&& a = (s - 1) &&& a := by decide +kernel
theorem sup_split : ∀ n, n ≤ 6 → ∀ b, b < 2 ^ n → ∀ y, y < 2 ^ n → y &&& b = b → (y &&& nd (2 ^ n - 1) b) &&& nd (2 ^ n - 1) b = y &&& nd (2 ^ n - 1) b ∧ b ||| (y &&& nd (2 ^ n - 1) b) = y := by decide +kernel
theorem sup_join : ∀ n, n ≤ 6 → ∀ b, b < 2 ^ n → ∀ x, x < 2 ^ n → (b ||| x) &&& b = b := by decide +kernel
theorem or_nd : ∀ S, S < 64 → ∀ g, g < 64 → S ||| nd g S = S ||| g := by decide +kernel
theorem nd_nd : ∀ n, n ≤ 6 → ∀ S, S < 2 ^ n → ∀ g, g < 2 ^ n → nd (nd (2 ^ n - 1) S) (nd g S) = nd (2 ^ n - 1) (S ||| g) := by decide +kernel

/-- The first k of f are there, the others 0. -/
def preTo (f : Nat → Int) (n k : Nat) : List Int := (List.range n).map fun i => if i < k then f i else 0
theorem preTo_len (f : Nat → Int) (n k : Nat) : (preTo f n k).length = n := by simp [preTo]
theorem preTo_zero (f : Nat → Int) (n : Nat) : preTo f n 0 = List.replicate n 0 := by
  apply List.ext_getElem
  · simp [preTo]
  · intro i h1 h2; simp [preTo]
theorem preTo_succ (f : Nat → Int) (n k : Nat) : (preTo f n k).set k (f k) = preTo f n (k + 1) := by
  apply List.ext_getElem
  · simp [preTo]
  · intro i h1 h2
    simp only [preTo, List.getElem_set, List.getElem_map, List.getElem_range]
    by_cases h : k = i
    · subst h; simp
    · rw [if_neg h]
      by_cases h' : i < k
      · rw [if_pos h', if_pos (by omega)]
      · rw [if_neg h', if_neg (by omega)]
theorem preTo_getD (f : Nat → Int) (n k i : Nat) (h : i < k) (hk : k ≤ n) : (preTo f n k).getD i 0 = f i := by
  simp [preTo, h, show i < n by omega]
theorem preTo_in (f : Nat → Int) (n k : Nat) (lo hi : Int) (h0 : lo ≤ 0 ∧ 0 ≤ hi) (h : ∀ i, i < n → lo ≤ f i ∧ f i ≤ hi) (j : Nat) : lo ≤ (preTo f n k).getD j 0 ∧ (preTo f n k).getD j 0 ≤ hi := by
  by_cases hj : j < n
  · have := h j hj
    simp only [preTo, List.getD_eq_getElem?_getD, List.getElem?_map, List.getElem?_range hj, Option.map_some, Option.getD_some]
    split <;> omega
  · rw [List.getD_eq_getElem?_getD, List.getElem?_eq_none (by rw [preTo_len]; omega), Option.getD_none]; omega

/-- The running minimum over the parts of a that come before s. -/
def InAcc (xs : List Int) (a s : Nat) (v : Int) : Prop :=
  (∀ x, x < xs.length → x &&& a = x → s < x → v ≤ xs.getD x 0) ∧ v ≤ xs.getD a 0 ∧ ∃ x, x < xs.length ∧ x &&& a = x ∧ v = xs.getD x 0
theorem InAcc.start (xs : List Int) (a : Nat) (ha : a < xs.length) : InAcc xs a a (xs.getD a 0) :=
  ⟨fun x hx h hlt => by have : x ≤ a := by rw [← h]; exact Nat.and_le_right
                        omega, Int.le_refl _, a, ha, Nat.and_self a, rfl⟩
theorem InAcc.step {xs : List Int} {a s : Nat} {v : Int} (h : InAcc xs a s v) (hl : xs.length ≤ 64) (hs : s < xs.length) (hal : a < 64) (hsa : s &&& a = s) :
    InAcc xs a ((s - 1) &&& a) (mn v (xs.getD s 0)) := by
  obtain ⟨h1, h2, x0, h3, h4, h5⟩ := h
  refine ⟨fun x hx hxa hlt => ?_, Int.le_trans (mn_le_left _ _) h2, ?_⟩
  · rcases Nat.lt_or_ge s x with h | h
    · exact Int.le_trans (mn_le_left _ _) (h1 x hx hxa h)
    · rcases Nat.lt_or_ge x s with h' | h'
      · have := sub_next a hal s (by omega) hsa x (by omega) hxa h'
        omega
      · obtain rfl : x = s := by omega
        exact mn_le_right _ _
  · rcases mn_cases v (xs.getD s 0) with h | h
    · exact ⟨x0, h3, h4, by rw [h, h5]⟩
    · exact ⟨s, hs, hsa, h⟩
theorem InAcc.done {xs : List Int} {a : Nat} {v : Int} (h : InAcc xs a 0 v) (h0 : xs.getD 0 0 = 0) : mn v 0 = inner xs a := by
  obtain ⟨h1, h2, x0, h3, h4, h5⟩ := h
  obtain ⟨y, g1, g2, g3⟩ := inner_mem xs a (by omega)
  have e1 : inner xs a ≤ mn v 0 := by
    rcases mn_cases v 0 with h | h
    · rw [h, h5]; exact inner_le xs a x0 h3 h4
    · rw [h, ← h0]; exact inner_le xs a 0 (by omega) (by simp)
  have e2 : mn v 0 ≤ inner xs a := by
    rw [g3]
    rcases Nat.eq_zero_or_pos y with h | h
    · rw [h, h0]; exact mn_le_right _ _
    · exact Int.le_trans (mn_le_left _ _) (h1 y g1 g2 h)
  omega

/-- The same over the groups around b: b and a part of the others. -/
def OutAcc (xs : List Int) (b r s : Nat) (v : Int) : Prop :=
  (∀ x, x < xs.length → x &&& r = x → s < x → v ≤ xs.getD (b ||| x) 0) ∧ v ≤ xs.getD (b ||| r) 0 ∧ ∃ x, x < xs.length ∧ x &&& r = x ∧ v = xs.getD (b ||| x) 0
theorem OutAcc.start (xs : List Int) (b r : Nat) (hr : r < xs.length) : OutAcc xs b r r (xs.getD (b ||| r) 0) :=
  ⟨fun x hx h hlt => by have : x ≤ r := by rw [← h]; exact Nat.and_le_right
                        omega, Int.le_refl _, r, hr, Nat.and_self r, rfl⟩
theorem OutAcc.step {xs : List Int} {b r s : Nat} {v : Int} (h : OutAcc xs b r s v) (hl : xs.length ≤ 64) (hr : r < xs.length) (hs : s < xs.length) (hsr : s &&& r = s) :
    OutAcc xs b r ((s - 1) &&& r) (mn v (xs.getD (b ||| s) 0)) := by
  obtain ⟨h1, h2, x0, h3, h4, h5⟩ := h
  refine ⟨fun x hx hxa hlt => ?_, Int.le_trans (mn_le_left _ _) h2, ?_⟩
  · rcases Nat.lt_or_ge s x with h | h
    · exact Int.le_trans (mn_le_left _ _) (h1 x hx hxa h)
    · rcases Nat.lt_or_ge x s with h' | h'
      · have := sub_next r (by omega) s (by omega) hsr x (by omega) hxa h'
        omega
      · obtain rfl : x = s := by omega
        exact mn_le_right _ _
  · rcases mn_cases v (xs.getD (b ||| s) 0) with h | h
    · exact ⟨x0, h3, h4, by rw [h, h5]⟩
    · exact ⟨s, hs, hsr, h⟩
theorem OutAcc.done {xs : List Int} {n b : Nat} {v : Int} (h : OutAcc xs b (nd (2 ^ n - 1) b) 0 v) (hn : n ≤ 6) (hl : xs.length = 2 ^ n) (hb : b < 2 ^ n) : mn v (xs.getD b 0) = outer xs b := by
  obtain ⟨h1, h2, x0, h3, h4, h5⟩ := h
  obtain ⟨y, g1, g2, g3⟩ := outer_mem xs n b hn hl hb
  have e1 : outer xs b ≤ mn v (xs.getD b 0) := by
    rcases mn_cases v (xs.getD b 0) with h | h
    · rw [h, h5]
      rw [hl] at h3
      exact outer_le xs b _ (by rw [hl]; exact Nat.or_lt_two_pow hb h3) (sup_join n hn b hb x0 h3)
    · rw [h]; exact outer_le xs b b (by omega) (Nat.and_self b)
  have e2 : mn v (xs.getD b 0) ≤ outer xs b := by
    rw [g3]
    obtain ⟨k1, k2⟩ := sup_split n hn b hb y (by omega) g2
    rcases Nat.eq_zero_or_pos (y &&& nd (2 ^ n - 1) b) with h | h
    · rw [h, Nat.or_zero] at k2; rw [← k2]; exact mn_le_right _ _
    · have := h1 (y &&& nd (2 ^ n - 1) b) (Nat.lt_of_le_of_lt Nat.and_le_left g1) k1 h
      rw [k2] at this
      exact Int.le_trans (mn_le_left _ _) this
  omega

def revOrd (n : Nat) : List Nat := (List.range n).reverse
theorem greedy_rev (n : Nat) (hn : n ≤ 6) (xs : List Int) : greedyL n xs (revOrd n) = (List.range n).map fun i => xs.getD (2 ^ n - 2 ^ i) 0 - xs.getD (2 ^ n - 2 ^ (i + 1)) 0 := by
  rcases (show n = 0 ∨ n = 1 ∨ n = 2 ∨ n = 3 ∨ n = 4 ∨ n = 5 ∨ n = 6 by omega) with rfl | rfl | rfl | rfl | rfl | rfl | rfl <;> kernel_rfl

def wi (xs : List Int) (S g : Nat) : Int := inner xs (g &&& S)
def wo (xs : List Int) (S g : Nat) : Int := outer xs (S ||| g) - xs.getD S 0
/-- The first k with both parts chosen, the others as within. -/
def mixTo (n : Nat) (xs : List Int) (S k : Nat) : List Int := (List.range n).map fun i => if i < k then proofAt n xs S i else wi xs S (2 ^ n - 2 ^ i) - wi xs S (2 ^ n - 2 ^ (i + 1))
theorem mixTo_len (n : Nat) (xs : List Int) (S k : Nat) : (mixTo n xs S k).length = n := by simp [mixTo]
theorem pw_lt : ∀ n, n ≤ 6 → ∀ i, i < n → 2 ^ n - 2 ^ i < 2 ^ n ∧ 2 ^ n - 2 ^ (i + 1) < 2 ^ n := by decide
theorem mixTo_zero (n : Nat) (hn : n ≤ 6) (xs : List Int) (S : Nat) : greedyL n (preTo (wi xs S) (2 ^ n) (2 ^ n)) (revOrd n) = mixTo n xs S 0 := by
  rw [greedy_rev n hn]
  unfold mixTo
  apply List.map_congr_left
  intro i hi
  rw [List.mem_range] at hi
  obtain ⟨h1, h2⟩ := pw_lt n hn i hi
  rw [preTo_getD _ _ _ _ h1 (Nat.le_refl _), preTo_getD _ _ _ _ h2 (Nat.le_refl _)]
  rw [if_neg (by omega)]
theorem mixTo_keep (n : Nat) (xs : List Int) (S k : Nat) (hk : k < n) (hb : S.testBit k = true) : mixTo n xs S (k + 1) = mixTo n xs S k := by
  unfold mixTo
  apply List.map_congr_left
  intro i hi
  by_cases h : i = k
  · subst h
    rw [if_pos (by omega), if_neg (by omega)]
    unfold proofAt wi
    rw [if_pos hb]
  · by_cases h' : i < k
    · rw [if_pos (by omega), if_pos h']
    · rw [if_neg (by omega), if_neg h']
theorem greedyO_at (n : Nat) (hn : n ≤ 6) (xs : List Int) (S k : Nat) (hk : k < n) (hb : S.testBit k = false) :
    (greedyL n (preTo (wo xs S) (2 ^ n) (2 ^ n)) (revOrd n)).getD k 0 = proofAt n xs S k := by
  rw [greedy_rev n hn]
  obtain ⟨h1, h2⟩ := pw_lt n hn k hk
  simp only [List.getD_eq_getElem?_getD, List.getElem?_map, List.getElem?_range hk, Option.map_some, Option.getD_some]
  rw [← List.getD_eq_getElem?_getD, ← List.getD_eq_getElem?_getD, preTo_getD _ _ _ _ h1 (Nat.le_refl _), preTo_getD _ _ _ _ h2 (Nat.le_refl _)]
  unfold wo proofAt
  rw [hb]
  simp only [Bool.false_eq_true, if_false]
  omega
theorem mixTo_set (n : Nat) (xs : List Int) (S k : Nat) : (mixTo n xs S k).set k (proofAt n xs S k) = mixTo n xs S (k + 1) := by
  apply List.ext_getElem
  · simp [mixTo]
  · intro i h1 h2
    simp only [mixTo, List.getElem_set, List.getElem_map, List.getElem_range]
    by_cases h : k = i
    · subst h; simp
    · rw [if_neg h]
      by_cases h' : i < k
      · rw [if_pos h', if_pos (by omega)]
      · rw [if_neg h', if_neg (by omega)]
theorem mixTo_all (n : Nat) (xs : List Int) : mixTo n xs (small xs) n = proofL n xs := by
  unfold mixTo proofL
  apply List.map_congr_left
  intro i hi
  rw [List.mem_range] at hi
  rw [if_pos hi]
end Go.Proofs.YtmepndnckcpgjaaGreat
