/- Plain laws: the cost of hedges is submodular, the same for a group and the others, and 0 for all; sums of submodular costs. No condition. -/
import Derived.Test.YtmepndnckcpgjaaGreatPlain5
import Derived.Test.YtmepndnckcpgjaaGreatPlain6
namespace Go.Proofs.YtmepndnckcpgjaaGreat

theorem cut1_sub {n : Int} {h : List Int} (hb : hedgeOk n h = true) (a b : Nat) : cut1 h (a ||| b) + cut1 h (a &&& b) ≤ cut1 h a + cut1 h b := by
  obtain ⟨_, _, _, _, _, _, h1, _⟩ := hedge_good hb
  unfold cut1
  simp only [Nat.testBit_or, Nat.testBit_and]
  cases a.testBit (hA h).toNat <;> cases a.testBit (hB h).toNat <;> cases b.testBit (hA h).toNat <;> cases b.testBit (hB h).toNat <;> simp <;> omega
theorem cutTo_sub {n : Int} {hs : List (List Int)} (hb : hedgesOk n hs = true) (a b k : Nat) (hk : k ≤ hs.length) : cutTo hs (a ||| b) k + cutTo hs (a &&& b) k ≤ cutTo hs a k + cutTo hs b k := by
  induction k with
  | zero => simp [cutTo]
  | succ k ih =>
    have h1 := ih (by omega)
    have h2 := cut1_sub (hedgesOk_at hb (by omega : k < hs.length)) a b
    simp only [cutTo]
    omega
theorem flip_bit : ∀ n, n ≤ 6 → ∀ g, g < 2 ^ n → ∀ i, i < n → (2 ^ n - 1 - g).testBit i = !g.testBit i := by decide +kernel
theorem cut1_flip {n : Nat} (hn : n ≤ 6) {h : List Int} (hb : hedgeOk n h = true) (g : Nat) (hg : g < 2 ^ n) : cut1 h (2 ^ n - 1 - g) = cut1 h g := by
  obtain ⟨_, h1, h2, h3, h4, _⟩ := hedge_good hb
  unfold cut1
  rw [flip_bit n hn g hg (hA h).toNat (by omega), flip_bit n hn g hg (hB h).toNat (by omega)]
  cases g.testBit (hA h).toNat <;> cases g.testBit (hB h).toNat <;> rfl
theorem cutTo_flip {n : Nat} (hn : n ≤ 6) {hs : List (List Int)} (hb : hedgesOk n hs = true) (g : Nat) (hg : g < 2 ^ n) (k : Nat) (hk : k ≤ hs.length) : cutTo hs (2 ^ n - 1 - g) k = cutTo hs g k := by
  induction k with
  | zero => rfl
  | succ k ih =>
    simp only [cutTo]
    rw [ih (by omega), cut1_flip hn (hedgesOk_at hb (by omega : k < hs.length)) g hg]
theorem cutTo_none (hs : List (List Int)) (k : Nat) : cutTo hs 0 k = 0 := by
  induction k with
  | zero => rfl
  | succ k ih => simp [cutTo, ih, cut1]

theorem cutErr_zero {m : Int} {hs : List (List Int)} (h : cutErr m hs = 0) : ∃ n : Nat, m = n ∧ 1 ≤ n ∧ n ≤ 6 ∧ hs.length ≤ 20 ∧ hedgesOk m hs = true := by
  unfold cutErr at h
  split at h
  · rename_i h1
    split at h
    · cases h
    · rename_i h2
      split at h
      · rename_i h3
        exact ⟨m.toNat, by omega, by omega, by omega, by omega, h3⟩
      · cases h
  · cases h
theorem cutL_get (n : Nat) (hs : List (List Int)) (g : Nat) (hg : g < 2 ^ n) : (cutL n hs).getD g 0 = cutAt hs g := by
  simp [cutL, List.getD_eq_getElem?_getD, hg]
section
variable {n : Nat} {hs : List (List Int)} (h1 : 1 ≤ n) (h6 : n ≤ 6) (h20 : hs.length ≤ 20) (hb : hedgesOk n hs = true)
include h6 h20 hb
omit h6 in
theorem cut_in (g : Nat) (hg : g < 2 ^ n) : 0 ≤ (cutL n hs).getD g 0 ∧ (cutL n hs).getD g 0 ≤ 20000 := by
  rw [cutL_get n hs g hg]
  have := cutTo_in hb g hs.length (Nat.le_refl _)
  unfold cutAt
  omega
include h1 in
theorem cut_costOk : costOk n (cutL n hs) = true := by
  unfold costOk
  simp only [Bool.and_eq_true, decide_eq_true_eq, Bool.not_eq_true', List.any_eq_false]
  refine ⟨⟨⟨⟨by omega, by omega⟩, by rw [cutL_len, Int.toNat_natCast]⟩, fun x hx => ?_⟩, ?_⟩
  · obtain ⟨g, hg, rfl⟩ := List.mem_map.1 hx
    have := cut_in h20 hb g (List.mem_range.1 hg)
    rw [cutL_get n hs g (List.mem_range.1 hg)] at this
    simp only [outC, Bool.or_eq_true, decide_eq_true_eq, not_or]
    omega
  · rw [cutL_get n hs 0 (Nat.pow_pos (by omega))]
    exact cutTo_none hs _
omit h20 h6 in
theorem cut_Sub : Sub (cutL n hs) := by
  intro a b ha hb'
  rw [cutL_len] at ha hb'
  rw [cutL_get n hs a ha, cutL_get n hs b hb', cutL_get n hs _ (Nat.or_lt_two_pow ha hb'), cutL_get n hs _ (Nat.lt_of_le_of_lt Nat.and_le_left ha)]
  exact cutTo_sub hb a b _ (Nat.le_refl _)
omit h20 in
theorem cut_flip (g : Nat) (hg : g < 2 ^ n) : (cutL n hs).getD (2 ^ n - 1 - g) 0 = (cutL n hs).getD g 0 := by
  rw [cutL_get n hs g hg, cutL_get n hs _ (by omega)]
  exact cutTo_flip h6 hb g hg _ (Nat.le_refl _)
omit h20 in
theorem cut_all : (cutL n hs).getD (2 ^ n - 1) 0 = 0 := by
  have hp : 0 < 2 ^ n := Nat.pow_pos (by omega)
  have := cut_flip h6 hb 0 hp
  rw [Nat.sub_zero] at this
  rw [this, cutL_get n hs 0 hp]
  exact cutTo_none hs _
end
end Go.Proofs.YtmepndnckcpgjaaGreat
