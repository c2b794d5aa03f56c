/- Plain laws: weights that are doubled or taken away. No condition. -/
import Derived.Test.YtfaenbaaadjbbaaPlain14
namespace Go.Proofs.Ytfaenbaaadjbbaa

def dotTo (ss ws : List Int) : Nat → Int := sumI fun j => ss.getD j 0 * ws.getD j 0
def winW (said : List (List Int)) (came : List Int) (n : Nat) : Nat → List Int
  | 0 => List.replicate n 1
  | i + 1 => if (if (n : Int) ≤ dotTo (said.getD i []) (winW said came n i) n then (1 : Int) else 0) = came.getD i 0 then winW said came n i
      else (List.range n).map fun f => if (said.getD i []).getD f 0 = 1 then (winW said came n i).getD f 0 * (2 * came.getD i 0) else (winW said came n i).getD f 0
def winF (said : List (List Int)) (came : List Int) (n i : Nat) : Int := if (n : Int) ≤ dotTo (said.getD i []) (winW said came n i) n then 1 else 0
theorem winW_len (said : List (List Int)) (came : List Int) (n i : Nat) : (winW said came n i).length = n := by
  induction i with
  | zero => simp [winW]
  | succ i ih =>
    simp only [winW]
    by_cases h : (if (n : Int) ≤ dotTo (said.getD i []) (winW said came n i) n then (1 : Int) else 0) = came.getD i 0
    · rw [if_pos h]; exact ih
    · rw [if_neg h, List.length_map, List.length_range]
theorem winW_zero (said : List (List Int)) (came : List Int) (n f : Nat) (h : f < n) : (winW said came n 0).getD f 0 = 1 := by simp [winW, List.getD_eq_getElem?_getD, h]
theorem winW_same {said : List (List Int)} {came : List Int} {n i : Nat} (h : winF said came n i = came.getD i 0) : winW said came n (i + 1) = winW said came n i := by
  unfold winF at h
  simp only [winW]
  rw [if_pos h]
theorem winW_step {said : List (List Int)} {came : List Int} {n i f : Nat} (h : winF said came n i ≠ came.getD i 0) (hf : f < n) :
    (winW said came n (i + 1)).getD f 0 = if (said.getD i []).getD f 0 = 1 then (winW said came n i).getD f 0 * (2 * came.getD i 0) else (winW said came n i).getD f 0 := by
  unfold winF at h
  simp only [winW]
  rw [if_neg h]
  simp [List.getD_eq_getElem?_getD, hf]
theorem winW_out (said : List (List Int)) (came : List Int) (n i f : Nat) (h : n ≤ f) : (winW said came n i).getD f 0 = 0 := by
  rw [List.getD_eq_getElem?_getD, List.getElem?_eq_none (by rw [winW_len]; exact h)]; rfl
theorem sumI_nonneg {g : Nat → Int} {n : Nat} (h : ∀ i, i < n → 0 ≤ g i) : 0 ≤ sumI g n := by
  induction n with
  | zero => exact Int.le_refl _
  | succ n ih => simp only [sumI]; have := ih fun i hi => h i (by omega); have := h n (by omega); omega
theorem sumI_one {g : Nat → Int} {n : Nat} (h : ∀ i, i < n → 0 ≤ g i) (f : Nat) (hf : f < n) : g f ≤ sumI g n := by
  induction n with
  | zero => omega
  | succ n ih =>
    simp only [sumI]
    have h0 := sumI_nonneg fun i (hi : i < n) => h i (by omega)
    have hn := h n (by omega)
    rcases Nat.lt_or_ge f n with h1 | h1
    · have := ih (fun i hi => h i (by omega)) h1; omega
    · obtain rfl : f = n := by omega
      omega
/-- What is said is 0 or 1, and so is what came. -/
def BitsI (said : List (List Int)) (came : List Int) (n i : Nat) : Prop := (∀ f, f < n → (said.getD i []).getD f 0 = 0 ∨ (said.getD i []).getD f 0 = 1) ∧ (came.getD i 0 = 0 ∨ came.getD i 0 = 1)
theorem winF_bit (said : List (List Int)) (came : List Int) (n i : Nat) : winF said came n i = 0 ∨ winF said came n i = 1 := by unfold winF; split <;> simp
/-- No weight is above twice n. -/
theorem winW_in {said : List (List Int)} {came : List Int} {n : Nat} (i : Nat) (hb : ∀ j, j < i → BitsI said came n j) (f : Nat) : 0 ≤ (winW said came n i).getD f 0 ∧ (winW said came n i).getD f 0 ≤ 2 * n := by
  rcases Nat.lt_or_ge f n with hf | hf
  · induction i generalizing f with
    | zero => rw [winW_zero _ _ _ _ hf]; omega
    | succ i ih =>
      have ih := fun f hf => ih (fun j hj => hb j (by omega)) f hf
      obtain ⟨b1, b2⟩ := hb i (by omega)
      by_cases h : winF said came n i = came.getD i 0
      · rw [winW_same h]; exact ih f hf
      · rw [winW_step h hf]
        have ihf := ih f hf
        split
        · rename_i h1
          rcases b2 with b2 | b2
          · rw [b2]; simp; omega
          · rw [b2] at h ⊢
            have hlt : dotTo (said.getD i []) (winW said came n i) n < n := by
              rcases Int.lt_or_le (dotTo (said.getD i []) (winW said came n i) n) n with h2 | h2
              · exact h2
              · unfold winF at h; rw [if_pos h2] at h; exact absurd rfl h
            have h3 := sumI_one (g := fun j => (said.getD i []).getD j 0 * (winW said came n i).getD j 0) (n := n) (fun j hj => by
              rcases b1 j hj with h4 | h4
              · simp only [h4]; omega
              · simp only [h4]; have := ih j hj; omega) f hf
            simp only [h1] at h3
            unfold dotTo at hlt
            omega
        · exact ihf
  · rw [winW_out _ _ _ _ _ hf]; omega
/-- How often 1 came and 0 was foretold, and the other way round. -/
def upsTo (said : List (List Int)) (came : List Int) (n : Nat) : Nat → Nat
  | 0 => 0
  | i + 1 => upsTo said came n i + if winF said came n i = 0 ∧ came.getD i 0 = 1 then 1 else 0
def downsTo (said : List (List Int)) (came : List Int) (n : Nat) : Nat → Nat
  | 0 => 0
  | i + 1 => downsTo said came n i + if winF said came n i = 1 ∧ came.getD i 0 = 0 then 1 else 0
theorem miss_ups {said : List (List Int)} {came told : List Int} {n : Nat} (k : Nat) (hb : ∀ j, j < k → BitsI said came n j) (ht : ∀ j, j < k → told.getD j 0 = winF said came n j) : missTo told came k = upsTo said came n k + downsTo said came n k := by
  induction k with
  | zero => rfl
  | succ k ih =>
    have ih := ih (fun j hj => hb j (by omega)) (fun j hj => ht j (by omega))
    simp only [missTo, upsTo, downsTo]
    rw [ht k (by omega), ih]
    have h1 := winF_bit said came n k
    have h2 := (hb k (by omega)).2
    rcases h1 with h1 | h1 <;> rcases h2 with h2 | h2 <;> rw [h1, h2] <;> simp <;> omega
theorem sumI_sub (g h : Nat → Int) (n : Nat) : sumI (fun i => g i - h i) n = sumI g n - sumI h n := by
  induction n with
  | zero => rfl
  | succ n ih => simp only [sumI]; rw [ih]; omega
/-- The sum of all weights. -/
def allW (said : List (List Int)) (came : List Int) (n i : Nat) : Int := sumI (fun f => (winW said came n i).getD f 0) n
theorem all_potential {said : List (List Int)} {came : List Int} {n : Nat} (k : Nat) (hb : ∀ j, j < k → BitsI said came n j) : allW said came n k + n * (downsTo said came n k : Int) ≤ n + n * (upsTo said came n k : Int) := by
  induction k with
  | zero =>
    have : allW said came n 0 = n := by
      unfold allW
      rw [sumI_congr (h := fun _ => 1) fun i hi => winW_zero _ _ _ _ hi, sumI_const]; simp
    rw [this]; simp [downsTo, upsTo]
  | succ k ih =>
    have ih := ih fun j hj => hb j (by omega)
    obtain ⟨b1, b2⟩ := hb k (by omega)
    have hF := winF_bit said came n k
    simp only [downsTo, upsTo]
    by_cases h : winF said came n k = came.getD k 0
    · have e : allW said came n (k + 1) = allW said came n k := by unfold allW; rw [winW_same h]
      rw [e, ← h]
      rcases hF with hF | hF <;> rw [hF] <;> simp <;> omega
    · rcases b2 with b2 | b2
      · have hF1 : winF said came n k = 1 := by rcases hF with hF | hF; · exact absurd (hF.trans b2.symm) h
                                                · exact hF
        have hge : (n : Int) ≤ dotTo (said.getD k []) (winW said came n k) n := by
          rcases Int.lt_or_le (dotTo (said.getD k []) (winW said came n k) n) n with h2 | h2
          · unfold winF at hF1; rw [if_neg (by omega)] at hF1; cases hF1
          · exact h2
        have e : allW said came n (k + 1) = allW said came n k - dotTo (said.getD k []) (winW said came n k) n := by
          unfold allW dotTo
          rw [← sumI_sub]
          refine sumI_congr fun f hf => ?_
          rw [winW_step h hf, b2]
          rcases b1 f hf with h3 | h3 <;> rw [h3] <;> simp
        rw [e, if_pos ⟨hF1, b2⟩, if_neg (fun h4 => by rw [hF1] at h4; cases h4.1)]
        generalize dotTo (said.getD k []) (winW said came n k) n = D at *
        rw [Int.natCast_add, Int.natCast_add, Int.mul_add, Int.mul_add]
        generalize (n : Int) * (downsTo said came n k : Int) = X at *
        generalize (n : Int) * (upsTo said came n k : Int) = Y at *
        simp
        omega
      · have hF0 : winF said came n k = 0 := by rcases hF with hF | hF; · exact hF
                                                · exact absurd (hF.trans b2.symm) h
        have hlt : dotTo (said.getD k []) (winW said came n k) n < n := by
          rcases Int.lt_or_le (dotTo (said.getD k []) (winW said came n k) n) n with h2 | h2
          · exact h2
          · unfold winF at hF0; rw [if_pos h2] at hF0; cases hF0
        have e : allW said came n (k + 1) = allW said came n k + dotTo (said.getD k []) (winW said came n k) n := by
          unfold allW dotTo
          rw [← sumI_add]
          refine sumI_congr fun f hf => ?_
          rw [winW_step h hf, b2]
          rcases b1 f hf with h3 | h3 <;> rw [h3] <;> simp <;> omega
        rw [e, if_neg (fun h4 => by rw [hF0] at h4; cases h4.1), if_pos ⟨hF0, b2⟩]
        generalize dotTo (said.getD k []) (winW said came n k) n = D at *
        rw [Int.natCast_add, Int.natCast_add, Int.mul_add, Int.mul_add]
        generalize (n : Int) * (downsTo said came n k : Int) = X at *
        generalize (n : Int) * (upsTo said came n k : Int) = Y at *
        simp
        omega
theorem downs_le {said : List (List Int)} {came : List Int} {n : Nat} (hn : 1 ≤ n) (k : Nat) (hb : ∀ j, j < k → BitsI said came n j) : downsTo said came n k ≤ 1 + upsTo said came n k := by
  have h := all_potential k hb
  have h0 : 0 ≤ allW said came n k := sumI_nonneg fun f _ => (winW_in k hb f).1
  rcases Nat.lt_or_ge (1 + upsTo said came n k) (downsTo said came n k) with h1 | h1
  · have h2 : (n : Int) * ((1 + upsTo said came n k : Nat) + 1 : Int) ≤ n * (downsTo said came n k : Int) := Int.mul_le_mul_of_nonneg_left (by omega) (by omega)
    rw [Int.mul_add, Int.natCast_add, Int.mul_add] at h2
    simp at h2
    omega
  · exact h1
/-- How often the weight of a foreteller was doubled. -/
def dblTo (said : List (List Int)) (came : List Int) (n f : Nat) : Nat → Nat
  | 0 => 0
  | i + 1 => dblTo said came n f i + if winF said came n i = 0 ∧ came.getD i 0 = 1 ∧ (said.getD i []).getD f 0 = 1 then 1 else 0
/-- One of the given foretellers says 1 exactly if 1 comes. -/
def Given (said : List (List Int)) (came : List Int) (n : Nat) (G : Nat → Bool) (i : Nat) : Prop := (came.getD i 0 = 1 → ∃ f, f < n ∧ G f = true ∧ (said.getD i []).getD f 0 = 1) ∧ ∀ f, f < n → G f = true → (said.getD i []).getD f 0 = 1 → came.getD i 0 = 1
theorem given_weight {said : List (List Int)} {came : List Int} {n h : Nat} {G : Nat → Bool} (hh : n ≤ 2 ^ h) (f : Nat) (hf : f < n) (hG : G f = true) (k : Nat) (hb : ∀ j, j < k → BitsI said came n j) (hg : ∀ j, j < k → Given said came n G j) :
    (winW said came n k).getD f 0 = ((2 ^ dblTo said came n f k : Nat) : Int) ∧ dblTo said came n f k ≤ h := by
  induction k with
  | zero => rw [winW_zero _ _ _ _ hf]; exact ⟨rfl, by simp [dblTo]⟩
  | succ k ih =>
    obtain ⟨i1, i2⟩ := ih (fun j hj => hb j (by omega)) (fun j hj => hg j (by omega))
    obtain ⟨b1, b2⟩ := hb k (by omega)
    obtain ⟨_, g2⟩ := hg k (by omega)
    have hF := winF_bit said came n k
    simp only [dblTo]
    by_cases hs : (said.getD k []).getD f 0 = 1
    · have hc := g2 f hf hG hs
      rcases hF with hF | hF
      · have hne : winF said came n k ≠ came.getD k 0 := by rw [hF, hc]; decide
        have hlt : dotTo (said.getD k []) (winW said came n k) n < n := by
          rcases Int.lt_or_le (dotTo (said.getD k []) (winW said came n k) n) n with h2 | h2
          · exact h2
          · unfold winF at hF; rw [if_pos h2] at hF; cases hF
        have h3 := sumI_one (g := fun j => (said.getD k []).getD j 0 * (winW said came n k).getD j 0) (n := n) (fun j hj => by
          have h5 := (winW_in k (fun j hj => hb j (by omega)) j).1
          rcases b1 j hj with h4 | h4
          · simp only [h4]; omega
          · simp only [h4]; omega) f hf
        simp only [hs, i1] at h3
        unfold dotTo at hlt
        have hd : 2 ^ dblTo said came n f k < 2 ^ h := by omega
        have hd2 := (Nat.pow_lt_pow_iff_right (by omega : 1 < 2)).1 hd
        rw [winW_step hne hf, if_pos hs, i1, if_pos ⟨hF, hc, hs⟩, hc, Nat.pow_succ]
        refine ⟨by rw [Int.natCast_mul]; rfl, by omega⟩
      · have he : winF said came n k = came.getD k 0 := by rw [hF, hc]
        rw [winW_same he, i1, if_neg (fun h4 => by rw [hF] at h4; cases h4.1)]
        exact ⟨rfl, i2⟩
    · rw [if_neg (fun h4 => hs h4.2.2)]
      refine ⟨?_, i2⟩
      by_cases he : winF said came n k = came.getD k 0
      · rw [winW_same he]; exact i1
      · rw [winW_step he hf, if_neg hs]; exact i1
theorem ups_le {said : List (List Int)} {came : List Int} {n : Nat} {G : Nat → Bool} (k : Nat) (hg : ∀ j, j < k → Given said came n G j) : upsTo said came n k ≤ sumN (fun f => if G f = true then dblTo said came n f k else 0) n := by
  induction k with
  | zero => exact Nat.zero_le _
  | succ k ih =>
    have ih := ih fun j hj => hg j (by omega)
    obtain ⟨g1, _⟩ := hg k (by omega)
    simp only [upsTo]
    by_cases h : winF said came n k = 0 ∧ came.getD k 0 = 1
    · obtain ⟨f, hf, hG, hs⟩ := g1 h.2
      rw [if_pos h]
      have hone : ∀ m, f < m → sumN (fun f => if G f = true then dblTo said came n f k else 0) m + 1 ≤ sumN (fun f => if G f = true then dblTo said came n f (k + 1) else 0) m := fun m hm => by
        induction m with
        | zero => omega
        | succ m ihm =>
          simp only [sumN]
          have hmono : (if G m = true then dblTo said came n m k else 0) ≤ (if G m = true then dblTo said came n m (k + 1) else 0) := by
            split
            · simp only [dblTo]; omega
            · exact Nat.le_refl _
          rcases Nat.lt_or_ge f m with h1 | h1
          · have := ihm h1; omega
          · obtain rfl : f = m := by omega
            have hle : sumN (fun f => if G f = true then dblTo said came n f k else 0) f ≤ sumN (fun f => if G f = true then dblTo said came n f (k + 1) else 0) f := sumN_le fun j _ => by
              split
              · simp only [dblTo]; omega
              · exact Nat.le_refl _
            rw [if_pos hG, if_pos hG]
            have : dblTo said came n f (k + 1) = dblTo said came n f k + 1 := by
              simp only [dblTo]; rw [if_pos ⟨h.1, h.2, hs⟩]
            omega
      have := hone n hf
      omega
    · rw [if_neg h]
      refine Nat.le_trans ih (sumN_le fun j _ => ?_)
      split
      · simp only [dblTo]; omega
      · exact Nat.le_refl _
/-- Winnow is wrong at most so often. -/
theorem win_law {said : List (List Int)} {came told : List Int} {n h k r : Nat} {G : Nat → Bool} (hn : 1 ≤ n) (hh : n ≤ 2 ^ h) (hb : ∀ j, j < k → BitsI said came n j) (hg : ∀ j, j < k → Given said came n G j) (ht : ∀ j, j < k → told.getD j 0 = winF said came n j)
    (hr : r = sumN (fun f => if G f = true then 1 else 0) n) : missTo told came k ≤ 2 + 3 * r * (1 + h) := by
  have h1 := miss_ups k hb ht
  have h2 := downs_le hn k hb
  have h3 := ups_le k hg
  have h4 : sumN (fun f => if G f = true then dblTo said came n f k else 0) n ≤ sumN (fun f => if G f = true then 1 else 0) n * h := by
    have : ∀ m, m ≤ n → sumN (fun f => if G f = true then dblTo said came n f k else 0) m ≤ sumN (fun f => if G f = true then 1 else 0) m * h := fun m hm => by
      induction m with
      | zero => simp [sumN]
      | succ m ih =>
        have := ih (by omega)
        simp only [sumN]
        rw [Nat.add_mul]
        by_cases hG : G m = true
        · rw [if_pos hG, if_pos hG]
          have := (given_weight hh m (by omega) hG k hb hg).2
          omega
        · rw [if_neg hG, if_neg hG]; omega
    exact this n (Nat.le_refl _)
  rw [← hr] at h4
  rw [Nat.mul_add, Nat.mul_one, Nat.mul_assoc]
  generalize r * h = P at *
  omega
end Go.Proofs.Ytfaenbaaadjbbaa
