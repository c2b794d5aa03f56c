/- Plain laws: Regret is from 0 to k / 2, grows with the foretellers, is 0 for one, and half of a walk's mean distance for two who say the opposite. No condition. -/
import Derived.Test.YtfaenbaaadjbbaaPlain1
namespace Go.Proofs.Ytfaenbaaadjbbaa

theorem reg_half {said : List (List Int)} {k folk : Nat} (hk : 1 ≤ k) : 2 * regN k folk said ≤ k * regD k folk said := by
  unfold regN regD
  have hp : 0 < 2 ^ k := Nat.pow_pos (by omega)
  have hle : 2 * (k * 2 ^ (k - 1) - sumTo said k folk (2 ^ k)) ≤ k * 2 ^ k := by
    have : k * 2 ^ k = 2 * (k * 2 ^ (k - 1)) := by rw [pow_pred hk]; ac_rfl
    omega
  generalize k * 2 ^ (k - 1) - sumTo said k folk (2 ^ k) = a at *
  have g := gcd_pos' (a := a) hp
  have m1 := ratN_mul a (2 ^ k)
  have m2 := ratD_mul a (2 ^ k)
  generalize ratN a (2 ^ k) = x at *
  generalize ratD a (2 ^ k) = y at *
  generalize Nat.gcd a (2 ^ k) = d at *
  apply Nat.le_of_mul_le_mul_right _ g
  calc 2 * x * d = 2 * (x * d) := by ac_rfl
    _ = 2 * a := by rw [m1]
    _ ≤ k * 2 ^ k := hle
    _ = k * (y * d) := by rw [m2]
    _ = k * y * d := by ac_rfl
theorem rat_le {a b c : Nat} (hc : 0 < c) (h : a ≤ b) : ratN a c * ratD b c ≤ ratN b c * ratD a c := by
  have ga := gcd_pos' (a := a) hc
  have gb := gcd_pos' (a := b) hc
  have m1 := ratN_mul a c
  have m2 := ratD_mul a c
  have m3 := ratN_mul b c
  have m4 := ratD_mul b c
  apply Nat.le_of_mul_le_mul_right _ (Nat.mul_pos ga gb)
  calc ratN a c * ratD b c * (Nat.gcd a c * Nat.gcd b c) = (ratN a c * Nat.gcd a c) * (ratD b c * Nat.gcd b c) := by ac_rfl
    _ = a * c := by rw [m1, m4]
    _ ≤ b * c := Nat.mul_le_mul_right _ h
    _ = (ratN b c * Nat.gcd b c) * (ratD a c * Nat.gcd a c) := by rw [m3, m2]
    _ = _ := by ac_rfl
/-- Rows that agree with the first foretellers of others. -/
theorem wrongTo_congr {said some' : List (List Int)} {k s f : Nat} (m : Nat) (h : ∀ i, i < m → (some'.getD i []).getD f 0 = (said.getD i []).getD f 0) : wrongTo some' k s f m = wrongTo said k s f m := by
  induction m with
  | zero => rfl
  | succ m ih => simp only [wrongTo]; rw [ih fun i hi => h i (by omega), h m (by omega)]
theorem bestTo_congr {said some' : List (List Int)} {k s : Nat} (m : Nat) (h : ∀ i f, i < k → f < m → (some'.getD i []).getD f 0 = (said.getD i []).getD f 0) : bestTo some' k s m = bestTo said k s m := by
  induction m with
  | zero => rfl
  | succ m ih =>
    simp only [bestTo]
    rw [ih fun i f hi hf => h i f hi (by omega), wrongTo_congr k fun i hi => h i m hi (by omega)]
theorem reg_fewer {said some' : List (List Int)} {k folk m : Nat} (hm : m ≤ folk) (h : ∀ i f, i < k → f < m → (some'.getD i []).getD f 0 = (said.getD i []).getD f 0) :
    regN k m some' * regD k folk said ≤ regN k folk said * regD k m some' := by
  unfold regN regD
  apply rat_le (Nat.pow_pos (by omega))
  apply Nat.sub_le_sub_left
  exact sumN_le fun s _ => by rw [bestTo_congr m h]; exact bestTo_mono said k s hm
theorem reg_one {said : List (List Int)} {k : Nat} (hb : Bits said k 1) (hk : 1 ≤ k) : regN k 1 said = 0 ∧ regD k 1 said = 1 := by
  unfold regN regD
  have h := twice_one hb
  have : k * 2 ^ k = 2 * (k * 2 ^ (k - 1)) := by rw [pow_pred hk]; ac_rfl
  have e : k * 2 ^ (k - 1) - sumTo said k 1 (2 ^ k) = 0 := by omega
  rw [e]
  exact rat_zero (Nat.pow_pos (by omega))

/-! ### a walk: the sum over all series depends on nothing but how many nights there are -/
def bitN (s j : Nat) : Nat := if s.testBit j then 1 else 0
/-- On how many places a series differs from a list (the first number at the highest bit). -/
def diff : List Nat → Nat → Nat
  | [], _ => 0
  | r :: rs, s => (if r = bitN s rs.length then 0 else 1) + diff rs s
def over (F : Nat → Nat) (rs : List Nat) : Nat := sumN (fun s => F (diff rs s)) (2 ^ rs.length)
theorem bitN_low (s j : Nat) (h : s < 2 ^ j) : bitN s j = 0 := by unfold bitN; rw [Nat.testBit_lt_two_pow h]; rfl
theorem bitN_high (s j : Nat) (h : s < 2 ^ j) : bitN (2 ^ j + s) j = 1 := by unfold bitN; rw [Nat.testBit_two_pow_add_eq, Nat.testBit_lt_two_pow h]; rfl
theorem bitN_more (s j i : Nat) (h : i < j) : bitN (2 ^ j + s) i = bitN s i := by unfold bitN; rw [Nat.testBit_two_pow_add_gt h]
theorem diff_more (rs : List Nat) (j s : Nat) (h : rs.length ≤ j) : diff rs (2 ^ j + s) = diff rs s := by
  induction rs with
  | nil => rfl
  | cons r rs ih => simp only [List.length_cons] at h; simp only [diff]; rw [ih (by omega), bitN_more s j _ (by omega)]
theorem over_cons (F : Nat → Nat) (r : Nat) (rs : List Nat) (hr : r = 0 ∨ r = 1) : over F (r :: rs) = over F rs + over (fun n => F (n + 1)) rs := by
  unfold over
  have e : 2 ^ (r :: rs).length = 2 ^ rs.length + 2 ^ rs.length := by rw [List.length_cons, Nat.pow_succ]; omega
  rw [e, sumN_split]
  have h1 : ∀ s, s < 2 ^ rs.length → diff (r :: rs) s = (if r = 0 then 0 else 1) + diff rs s := fun s hs => by simp only [diff]; rw [bitN_low s _ hs]
  have h2 : ∀ s, s < 2 ^ rs.length → diff (r :: rs) (2 ^ rs.length + s) = (if r = 1 then 0 else 1) + diff rs s := fun s hs => by
    simp only [diff]; rw [bitN_high s _ hs, diff_more rs _ s (Nat.le_refl _)]
  rcases hr with rfl | rfl
  · rw [sumN_congr (fun s hs => by rw [h1 s hs] : ∀ s, s < 2 ^ rs.length → F (diff (0 :: rs) s) = F ((if (0 : Nat) = 0 then 0 else 1) + diff rs s)),
      sumN_congr (fun s hs => by rw [h2 s hs] : ∀ s, s < 2 ^ rs.length → F (diff (0 :: rs) (2 ^ rs.length + s)) = F ((if (0 : Nat) = 1 then 0 else 1) + diff rs s))]
    simp [Nat.add_comm]
  · rw [sumN_congr (fun s hs => by rw [h1 s hs] : ∀ s, s < 2 ^ rs.length → F (diff (1 :: rs) s) = F ((if (1 : Nat) = 0 then 0 else 1) + diff rs s)),
      sumN_congr (fun s hs => by rw [h2 s hs] : ∀ s, s < 2 ^ rs.length → F (diff (1 :: rs) (2 ^ rs.length + s)) = F ((if (1 : Nat) = 1 then 0 else 1) + diff rs s))]
    simp [Nat.add_comm]
theorem over_same (F : Nat → Nat) (rs ts : List Nat) (hl : rs.length = ts.length) (hr : ∀ x ∈ rs, x = 0 ∨ x = 1) (ht : ∀ x ∈ ts, x = 0 ∨ x = 1) : over F rs = over F ts := by
  induction rs generalizing ts F with
  | nil => cases ts with
    | nil => rfl
    | cons => simp at hl
  | cons r rs ih => cases ts with
    | nil => simp at hl
    | cons t ts =>
      simp only [List.length_cons, Nat.add_right_cancel_iff] at hl
      rw [over_cons F r rs (hr r (List.mem_cons_self ..)), over_cons F t ts (ht t (List.mem_cons_self ..)),
        ih F ts hl (fun x hx => hr x (List.mem_cons_of_mem _ hx)) (fun x hx => ht x (List.mem_cons_of_mem _ hx)),
        ih (fun n => F (n + 1)) ts hl (fun x hx => hr x (List.mem_cons_of_mem _ hx)) (fun x hx => ht x (List.mem_cons_of_mem _ hx))]
/-- The steps of a walk: how many of the lowest k bits are 1. -/
def onesTo (s : Nat) : Nat → Nat
  | 0 => 0
  | k + 1 => onesTo s k + bitN s k
theorem onesTo_le (s k : Nat) : onesTo s k ≤ k := by
  induction k with
  | zero => exact Nat.le_refl _
  | succ k ih => simp only [onesTo]; unfold bitN; split <;> omega
theorem diff_zeros (k s : Nat) : diff (List.replicate k 0) s = onesTo s k := by
  induction k with
  | zero => rfl
  | succ k ih =>
    rw [List.replicate_succ]
    simp only [diff, onesTo, List.length_replicate]
    rw [ih]
    unfold bitN
    split <;> simp <;> omega
def colN (said : List (List Int)) (m k : Nat) : List Nat := (List.range (k - m)).map fun i => ((said.getD (m + i) []).getD 0 0).toNat
theorem colN_len (said : List (List Int)) (m k : Nat) : (colN said m k).length = k - m := by simp [colN]
theorem colN_step (said : List (List Int)) (m k : Nat) (h : m < k) : colN said m k = ((said.getD m []).getD 0 0).toNat :: colN said (m + 1) k := by
  unfold colN
  obtain ⟨j, hj⟩ : ∃ j, k - m = j + 1 := ⟨k - m - 1, by omega⟩
  have hj2 : k - (m + 1) = j := by omega
  rw [hj, hj2, List.range_succ_eq_map]
  simp only [List.map_cons, List.map_map, Nat.add_zero, List.cons.injEq, true_and]
  apply List.map_congr_left
  intro i _
  simp only [Function.comp]
  congr 3; omega
theorem wrong_diff {said : List (List Int)} {k : Nat} (hb : Bits said k 1) (s m : Nat) (hm : m ≤ k) : wrongTo said k s 0 m + diff (colN said m k) s = diff (colN said 0 k) s := by
  induction m with
  | zero => simp [wrongTo]
  | succ m ih =>
    rw [← ih (by omega), colN_step said m k (by omega)]
    simp only [wrongTo, diff]
    rw [colN_len]
    have h1 := hb m 0 (by omega) (by omega)
    have e : k - (m + 1) = k - 1 - m := by omega
    rw [e]
    have h2 : ((said.getD m []).getD 0 0 = nightB k s m) ↔ (((said.getD m []).getD 0 0).toNat = bitN s (k - 1 - m)) := by
      unfold nightB bitN
      rcases h1 with h1 | h1 <;> rw [h1] <;> cases s.testBit (k - 1 - m) <;> simp
    by_cases h3 : (said.getD m []).getD 0 0 = nightB k s m
    · rw [if_pos h3, if_pos (h2.1 h3)]; omega
    · rw [if_neg h3, if_neg (fun h => h3 (h2.2 h))]; omega
/-- How far from its start a walk of k steps ends that goes on m times. -/
def far (k m : Nat) : Nat := if k ≤ 2 * m then 2 * m - k else k - 2 * m
theorem reg_two {two : List (List Int)} {k : Nat} (hk : 1 ≤ k) (hb : Bits two k 2) (ho : ∀ i, i < k → (two.getD i []).getD 1 0 = 1 - (two.getD i []).getD 0 0) :
    regN k 2 two * 2 * 2 ^ k = sumN (fun s => far k (onesTo s k)) (2 ^ k) * regD k 2 two := by
  have hb1 : Bits two k 1 := fun i f hi hf => hb i f hi (by omega)
  have hw : ∀ s, s < 2 ^ k → ∀ m, m ≤ k → wrongTo two k s 1 m + wrongTo two k s 0 m = m := by
    intro s hs m hm
    induction m with
    | zero => rfl
    | succ m ih =>
      have h1 := ih (by omega)
      have h2 := ho m (by omega)
      have h3 := hb m 0 (by omega) (by omega)
      simp only [wrongTo]
      rw [h2]
      have h4 : nightB k s m = 0 ∨ nightB k s m = 1 := by unfold nightB; split <;> simp
      rcases h3 with h3 | h3 <;> rcases h4 with h4 | h4 <;> rw [h3, h4] <;> simp <;> omega
  have hfar : ∀ s, s < 2 ^ k → 2 * bestTo two k s 2 + far k (diff (colN two 0 k) s) = k := by
    intro s hs
    have h1 := hw s hs k (Nat.le_refl _)
    have h2 := wrong_diff hb1 s k (Nat.le_refl _)
    have h3 := wrongTo_le two k s 0 k
    have h4 : diff (colN two k k) s = 0 := by unfold colN; rw [Nat.sub_self]; rfl
    rw [h4, Nat.add_zero] at h2
    rw [← h2]
    simp only [bestTo]
    unfold far
    split <;> omega
  have hsum : 2 * sumTo two k 2 (2 ^ k) + over (far k) (colN two 0 k) = k * 2 ^ k := by
    unfold over sumTo
    rw [colN_len, Nat.sub_zero, Nat.mul_comm k, ← sumN_const k (2 ^ k)]
    rw [← sumN_congr hfar, sumN_add]
    congr 1
    generalize 2 ^ k = n
    induction n with
    | zero => rfl
    | succ n ih => simp only [sumN]; omega
  have hov : over (far k) (colN two 0 k) = sumN (fun s => far k (onesTo s k)) (2 ^ k) := by
    rw [over_same (far k) (colN two 0 k) (List.replicate k 0) (by rw [colN_len]; simp) ?_ (fun x hx => .inl (List.eq_of_mem_replicate hx))]
    · unfold over
      rw [List.length_replicate]
      exact sumN_congr fun s _ => by rw [diff_zeros]
    · intro x hx
      unfold colN at hx
      rw [List.mem_map] at hx
      obtain ⟨i, hi, rfl⟩ := hx
      rw [List.mem_range] at hi
      have := hb (0 + i) 0 (by omega) (by omega)
      omega
  rw [hov] at hsum
  unfold regN regD
  have hP : k * 2 ^ k = 2 * (k * 2 ^ (k - 1)) := by rw [pow_pred hk]; ac_rfl
  have ha : 2 * (k * 2 ^ (k - 1) - sumTo two k 2 (2 ^ k)) = sumN (fun s => far k (onesTo s k)) (2 ^ k) := by omega
  have hc := rat_cross (k * 2 ^ (k - 1) - sumTo two k 2 (2 ^ k)) (2 ^ k)
  generalize k * 2 ^ (k - 1) - sumTo two k 2 (2 ^ k) = a at *
  rw [← ha]
  calc ratN a (2 ^ k) * 2 * 2 ^ k = 2 * (ratN a (2 ^ k) * 2 ^ k) := by ac_rfl
    _ = 2 * (a * ratD a (2 ^ k)) := by rw [hc]
    _ = _ := by ac_rfl
end Go.Proofs.Ytfaenbaaadjbbaa
