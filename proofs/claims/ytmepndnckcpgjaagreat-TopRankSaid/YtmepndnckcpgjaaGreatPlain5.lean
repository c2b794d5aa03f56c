/- Plain laws: submodular costs; the groups with the least cost are a lattice. No condition. -/
import Derived.Test.YtmepndnckcpgjaaGreatPlain3
namespace Go.Proofs.YtmepndnckcpgjaaGreat

/-- Submodular: no two groups break it. -/
def Sub (xs : List Int) : Prop := ∀ a b, a < xs.length → b < xs.length → xs.getD (a ||| b) 0 + xs.getD (a &&& b) 0 ≤ xs.getD a 0 + xs.getD b 0
theorem brkT_sub {xs : List Int} (h : brkT xs = false) : Sub xs := by
  have hn : brk xs = none := by
    unfold brkT at h
    cases hb : brk xs with
    | none => rfl
    | some p => rw [hb] at h; cases h
  have key : ∀ a b, a < b → b < xs.length → xs.getD (a ||| b) 0 + xs.getD (a &&& b) 0 ≤ xs.getD a 0 + xs.getD b 0 := by
    intro a b h1 h2
    unfold brk at hn
    rw [List.find?_eq_none] at hn
    have := hn (a, b) ((mem_pairs _ _ _).2 ⟨h1, h2⟩)
    simp only [bad, decide_eq_true_eq] at this
    omega
  intro a b ha hb
  rcases Nat.lt_trichotomy a b with h | h | h
  · exact key a b h hb
  · subst h; rw [Nat.or_self, Nat.and_self]; omega
  · have := key b a h ha
    rw [Nat.or_comm, Nat.and_comm]; omega
theorem sub_brkT {xs : List Int} (h : Sub xs) : brkT xs = false := by
  have : brk xs = none := brk_miss xs fun a b h1 h2 => by
    have := h a b (by omega) h2
    unfold bad
    exact decide_eq_false (by omega)
  unfold brkT; rw [this]; rfl

section
variable {xs : List Int} {n : Nat}
theorem lat_or (hs : Sub xs) (hl : xs.length = 2 ^ n) {x y : Nat} (hx : x < xs.length) (hy : y < xs.length) (h1 : xs.getD x 0 = low xs) (h2 : xs.getD y 0 = low xs) :
    xs.getD (x ||| y) 0 = low xs ∧ xs.getD (x &&& y) 0 = low xs := by
  have ho : x ||| y < xs.length := by rw [hl] at *; exact Nat.or_lt_two_pow hx hy
  have ha : x &&& y < xs.length := Nat.lt_of_le_of_lt Nat.and_le_left hx
  have := hs x y hx hy
  have := low_le xs _ ho
  have := low_le xs _ ha
  omega
theorem smallTo_law (hs : Sub xs) (hn : n ≤ 6) (hl : xs.length = 2 ^ n) (k : Nat) (hk : k ≤ xs.length) :
    ((smallTo xs (low xs) k = xs.length - 1 ∧ ∀ x, x < k → xs.getD x 0 ≠ low xs) ∨ xs.getD (smallTo xs (low xs) k) 0 = low xs) ∧ ∀ x, x < k → xs.getD x 0 = low xs → x &&& smallTo xs (low xs) k = smallTo xs (low xs) k := by
  induction k with
  | zero => exact ⟨.inl ⟨rfl, fun x h => absurd h (by omega)⟩, fun x h => absurd h (by omega)⟩
  | succ k ih =>
    obtain ⟨h1, h2⟩ := ih (by omega)
    have hlt := smallTo_le xs (low xs) k
    unfold smallTo
    split
    · rename_i hc
      constructor
      · right
        rcases h1 with ⟨h1, _⟩ | h1
        · rw [h1, hl, all_and n hn k (by omega)]; exact hc
        · exact (lat_or hs hl (by omega) (by omega) h1 hc).2
      · intro x hx he
        rcases Nat.lt_or_ge x k with h | h
        · rw [← Nat.and_assoc, h2 x h he]
        · obtain rfl : x = k := by omega
          rw [Nat.and_comm, Nat.and_assoc, Nat.and_self]
    · rename_i hc
      refine ⟨?_, fun x hx he => ?_⟩
      · rcases h1 with ⟨h1, h3⟩ | h1
        · refine .inl ⟨h1, fun x hx => ?_⟩
          rcases Nat.lt_or_ge x k with h | h
          · exact h3 x h
          · obtain rfl : x = k := by omega
            exact hc
        · exact .inr h1
      · rcases Nat.lt_or_ge x k with h | h
        · exact h2 x h he
        · obtain rfl : x = k := by omega
          exact absurd he hc
theorem largeTo_law (hs : Sub xs) (hl : xs.length = 2 ^ n) (k : Nat) (hk : k ≤ xs.length) :
    ((largeTo xs (low xs) k = 0 ∧ ∀ x, x < k → xs.getD x 0 ≠ low xs) ∨ xs.getD (largeTo xs (low xs) k) 0 = low xs) ∧ ∀ x, x < k → xs.getD x 0 = low xs → x ||| largeTo xs (low xs) k = largeTo xs (low xs) k := by
  induction k with
  | zero => exact ⟨.inl ⟨rfl, fun x h => absurd h (by omega)⟩, fun x h => absurd h (by omega)⟩
  | succ k ih =>
    obtain ⟨h1, h2⟩ := ih (by omega)
    have hlt := largeTo_lt xs (low xs) n k hl (by omega)
    unfold largeTo
    split
    · rename_i hc
      constructor
      · right
        rcases h1 with ⟨h1, _⟩ | h1
        · rw [h1, Nat.zero_or]; exact hc
        · exact (lat_or hs hl hlt (by omega) h1 hc).1
      · intro x hx he
        rcases Nat.lt_or_ge x k with h | h
        · rw [← Nat.or_assoc, h2 x h he]
        · obtain rfl : x = k := by omega
          rw [Nat.or_comm, Nat.or_assoc, Nat.or_self]
    · rename_i hc
      refine ⟨?_, fun x hx he => ?_⟩
      · rcases h1 with ⟨h1, h3⟩ | h1
        · refine .inl ⟨h1, fun x hx => ?_⟩
          rcases Nat.lt_or_ge x k with h | h
          · exact h3 x h
          · obtain rfl : x = k := by omega
            exact hc
        · exact .inr h1
      · rcases Nat.lt_or_ge x k with h | h
        · exact h2 x h he
        · obtain rfl : x = k := by omega
          exact absurd he hc
theorem large_lt (hl : xs.length = 2 ^ n) : large xs < xs.length := largeTo_lt xs (low xs) n xs.length hl (Nat.le_refl _)
theorem small_low (hs : Sub xs) (hn : n ≤ 6) (hl : xs.length = 2 ^ n) : xs.getD (small xs) 0 = low xs := by
  have h0 : 0 < xs.length := by rw [hl]; exact Nat.pow_pos (by omega)
  obtain ⟨x, h1, h2⟩ := low_mem xs h0
  rcases (smallTo_law hs hn hl xs.length (Nat.le_refl _)).1 with ⟨_, h⟩ | h
  · exact absurd h2.symm (h x h1)
  · exact h
theorem small_part (hs : Sub xs) (hn : n ≤ 6) (hl : xs.length = 2 ^ n) {x : Nat} (hx : x < xs.length) (h : xs.getD x 0 = low xs) : x &&& small xs = small xs :=
  (smallTo_law hs hn hl xs.length (Nat.le_refl _)).2 x hx h
theorem large_low (hs : Sub xs) (hl : xs.length = 2 ^ n) : xs.getD (large xs) 0 = low xs := by
  have h0 : 0 < xs.length := by rw [hl]; exact Nat.pow_pos (by omega)
  obtain ⟨x, h1, h2⟩ := low_mem xs h0
  rcases (largeTo_law hs hl xs.length (Nat.le_refl _)).1 with ⟨_, h⟩ | h
  · exact absurd h2.symm (h x h1)
  · exact h
theorem large_part (hs : Sub xs) (hl : xs.length = 2 ^ n) {x : Nat} (hx : x < xs.length) (h : xs.getD x 0 = low xs) : x ||| large xs = large xs :=
  (largeTo_law hs hl xs.length (Nat.le_refl _)).2 x hx h
theorem or_and {a b : Nat} (h : a ||| b = b) : a &&& b = a := by
  rw [← h]; apply Nat.eq_of_testBit_eq; intro i; rw [Nat.testBit_and, Nat.testBit_or]; cases a.testBit i <;> cases b.testBit i <;> rfl
theorem small_large (hs : Sub xs) (hn : n ≤ 6) (hl : xs.length = 2 ^ n) : small xs &&& large xs = small xs := by
  have h0 : 0 < xs.length := by rw [hl]; exact Nat.pow_pos (by omega)
  exact or_and (large_part hs hl (small_lt xs h0) (small_low hs hn hl))
end
end Go.Proofs.YtmepndnckcpgjaaGreat
