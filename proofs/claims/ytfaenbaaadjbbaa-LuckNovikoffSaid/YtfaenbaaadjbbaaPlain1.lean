/- Plain laws: sums, fractions in lowest terms, and how often foretellers are wrong. No condition. -/
namespace Go.Proofs.Ytfaenbaaadjbbaa

/-- The first index at which p holds, as Go's slices.IndexFunc gives it. -/
def firstIdx {α : Type} (p : α → Bool) (xs : List α) : Int := match xs.findIdx? p with | some i => (i : Int) | none => -1

theorem firstIdx_hit {α : Type} (d : α) (p : α → Bool) (xs : List α) (k : Nat) (hk : k < xs.length) (h : p (xs.getD k d) = true) (hb : ∀ j, j < k → p (xs.getD j d) = false) : firstIdx p xs = k := by
  have e : xs.findIdx? p = some k := by
    rw [List.findIdx?_eq_some_iff_getElem]
    refine ⟨hk, by simpa [List.getD_eq_getElem?_getD, hk] using h, fun j hj => ?_⟩
    have := hb j hj
    simpa [List.getD_eq_getElem?_getD, Nat.lt_trans hj hk] using this
  simp [firstIdx, e]
theorem firstIdx_miss {α : Type} (d : α) (p : α → Bool) (xs : List α) (hb : ∀ j, j < xs.length → p (xs.getD j d) = false) : firstIdx p xs = -1 := by
  have e : xs.findIdx? p = none := by
    rw [List.findIdx?_eq_none_iff]
    intro x hx
    obtain ⟨j, hj, rfl⟩ := List.getElem_of_mem hx
    have := hb j hj
    simpa [List.getD_eq_getElem?_getD, hj] using this
  simp [firstIdx, e]
theorem firstIdx_any {α : Type} (p : α → Bool) (xs : List α) : decide (0 ≤ firstIdx p xs) = xs.any p := by
  unfold firstIdx
  cases h : xs.findIdx? p with
  | none =>
    rw [List.findIdx?_eq_none_iff] at h
    have : xs.any p = false := by simpa [List.any_eq_false] using h
    simp [this]
  | some i =>
    rw [List.findIdx?_eq_some_iff_getElem] at h
    obtain ⟨hi, hp, _⟩ := h
    have : xs.any p = true := List.any_eq_true.2 ⟨_, List.getElem_mem hi, hp⟩
    simp [this]

/-! ### sums -/
def sumN (g : Nat → Nat) : Nat → Nat
  | 0 => 0
  | n + 1 => sumN g n + g n
theorem sumN_split (g : Nat → Nat) (a b : Nat) : sumN g (a + b) = sumN g a + sumN (fun i => g (a + i)) b := by
  induction b with
  | zero => rfl
  | succ b ih => show sumN g (a + b) + g (a + b) = _; rw [ih]; simp [sumN]; omega
theorem sumN_congr {g h : Nat → Nat} {n : Nat} (e : ∀ i, i < n → g i = h i) : sumN g n = sumN h n := by
  induction n with
  | zero => rfl
  | succ n ih => simp only [sumN]; rw [ih fun i hi => e i (by omega), e n (by omega)]
theorem sumN_add (g h : Nat → Nat) (n : Nat) : sumN (fun i => g i + h i) n = sumN g n + sumN h n := by
  induction n with
  | zero => rfl
  | succ n ih => simp only [sumN]; rw [ih]; omega
theorem sumN_le {g h : Nat → Nat} {n : Nat} (e : ∀ i, i < n → g i ≤ h i) : sumN g n ≤ sumN h n := by
  induction n with
  | zero => exact Nat.le_refl _
  | succ n ih => simp only [sumN]; have := ih fun i hi => e i (by omega); have := e n (by omega); omega
theorem sumN_const (c n : Nat) : sumN (fun _ => c) n = n * c := by
  induction n with
  | zero => simp [sumN]
  | succ n ih => simp only [sumN]; rw [ih, Nat.succ_mul]
theorem sumN_front (g : Nat → Nat) (n : Nat) : sumN g (n + 1) = g 0 + sumN (fun i => g (i + 1)) n := by
  rw [Nat.add_comm n 1, sumN_split]
  have e : (fun i => g (1 + i)) = fun i => g (i + 1) := by funext i; rw [Nat.add_comm]
  rw [e]; simp [sumN]
theorem sumN_rev (g : Nat → Nat) (n : Nat) : sumN (fun i => g (n - 1 - i)) n = sumN g n := by
  induction n with
  | zero => rfl
  | succ n ih =>
    rw [sumN_front]
    have e : sumN (fun i => g (n + 1 - 1 - (i + 1))) n = sumN (fun i => g (n - 1 - i)) n := sumN_congr fun i hi => by
      congr 1; omega
    rw [e, ih]
    simp [sumN]; omega

/-! ### fractions in lowest terms -/
def ratN (a b : Nat) : Nat := a / Nat.gcd a b
def ratD (a b : Nat) : Nat := b / Nat.gcd a b
theorem gcd_pos' {a b : Nat} (h : 0 < b) : 0 < Nat.gcd a b := Nat.gcd_pos_of_pos_right _ h
theorem ratD_pos {a b : Nat} (h : 0 < b) : 0 < ratD a b :=
  Nat.div_pos (Nat.gcd_le_right _ h) (gcd_pos' h)
theorem rat_cross (a b : Nat) : ratN a b * b = a * ratD a b := by
  unfold ratN ratD
  have h1 := Nat.gcd_dvd_left a b
  have h2 := Nat.gcd_dvd_right a b
  generalize Nat.gcd a b = g at *
  obtain ⟨x, rfl⟩ := h1
  obtain ⟨y, rfl⟩ := h2
  rcases Nat.eq_zero_or_pos g with rfl | hg
  · simp
  · rw [Nat.mul_div_cancel_left _ hg, Nat.mul_div_cancel_left _ hg]
    ac_rfl
theorem ratN_mul (a b : Nat) : ratN a b * Nat.gcd a b = a := Nat.div_mul_cancel (Nat.gcd_dvd_left a b)
theorem ratD_mul (a b : Nat) : ratD a b * Nat.gcd a b = b := Nat.div_mul_cancel (Nat.gcd_dvd_right a b)
theorem ratN_le (a b : Nat) : ratN a b ≤ a := Nat.div_le_self _ _
theorem ratD_le (a b : Nat) : ratD a b ≤ b := Nat.div_le_self _ _
theorem rat_coprime {a b : Nat} (h : 0 < b) : Nat.gcd (ratN a b) (ratD a b) = 1 := by
  unfold ratN ratD
  rw [Nat.gcd_div (Nat.gcd_dvd_left a b) (Nat.gcd_dvd_right a b)]
  exact Nat.div_self (gcd_pos' h)
/-- Two equal fractions have the same lowest terms. -/
theorem rat_eq {a b c d : Nat} (hb : 0 < b) (hd : 0 < d) (h : a * d = c * b) : ratN a b = ratN c d ∧ ratD a b = ratD c d := by
  have k1 := rat_coprime (a := a) hb
  have k2 := rat_coprime (a := c) hd
  have p1 := ratD_pos (a := a) hb
  have p2 := ratD_pos (a := c) hd
  have e : ratN a b * ratD c d = ratN c d * ratD a b := by
    have g1 : 0 < Nat.gcd a b := gcd_pos' hb
    have g2 : 0 < Nat.gcd c d := gcd_pos' hd
    have m1 := ratN_mul a b
    have m2 := ratD_mul a b
    have m3 := ratN_mul c d
    have m4 := ratD_mul c d
    apply Nat.eq_of_mul_eq_mul_right (Nat.mul_pos g1 g2)
    calc ratN a b * ratD c d * (Nat.gcd a b * Nat.gcd c d) = (ratN a b * Nat.gcd a b) * (ratD c d * Nat.gcd c d) := by ac_rfl
      _ = a * d := by rw [m1, m4]
      _ = c * b := h
      _ = (ratN c d * Nat.gcd c d) * (ratD a b * Nat.gcd a b) := by rw [m3, m2]
      _ = _ := by ac_rfl
  have d1 : ratD a b ∣ ratD c d := by
    have : ratD a b ∣ ratN a b * ratD c d := ⟨ratN c d, by rw [e]; exact Nat.mul_comm _ _⟩
    exact (Nat.Coprime.dvd_of_dvd_mul_left (k := ratD a b) (m := ratN a b) (by rw [Nat.Coprime, Nat.gcd_comm]; exact k1) this)
  have d2 : ratD c d ∣ ratD a b := by
    have : ratD c d ∣ ratN c d * ratD a b := ⟨ratN a b, by rw [← e]; exact Nat.mul_comm _ _⟩
    exact (Nat.Coprime.dvd_of_dvd_mul_left (k := ratD c d) (m := ratN c d) (by rw [Nat.Coprime, Nat.gcd_comm]; exact k2) this)
  have ed := Nat.dvd_antisymm d1 d2
  refine ⟨?_, ed⟩
  rw [ed] at e
  exact Nat.eq_of_mul_eq_mul_right p2 e
theorem rat_scale (c a b : Nat) (hc : 0 < c) (hb : 0 < b) : ratN (c * a) (c * b) = ratN a b ∧ ratD (c * a) (c * b) = ratD a b :=
  rat_eq (Nat.mul_pos hc hb) hb (by ac_rfl)
theorem rat_zero {b : Nat} (hb : 0 < b) : ratN 0 b = 0 ∧ ratD 0 b = 1 := by
  unfold ratN ratD
  simp [Nat.div_self hb]

/-! ### foretellers -/
def bitB (x : Int) : Bool := x == 0 || x == 1
theorem bitB_iff (x : Int) : bitB x = true ↔ x = 0 ∨ x = 1 := by simp [bitB]
/-- A list of n numbers 0 or 1. -/
def bitsB (n : Int) (l : List Int) : Bool := decide ((l.length : Int) = n) && l.all bitB
def nightB (k s i : Nat) : Int := if s.testBit (k - 1 - i) then 1 else 0
def wrongTo (said : List (List Int)) (k s f : Nat) : Nat → Nat
  | 0 => 0
  | m + 1 => wrongTo said k s f m + if (said.getD m []).getD f 0 = nightB k s m then 0 else 1
def bestTo (said : List (List Int)) (k s : Nat) : Nat → Nat
  | 0 => k
  | f + 1 => min (bestTo said k s f) (wrongTo said k s f k)
def sumTo (said : List (List Int)) (k folk : Nat) : Nat → Nat := sumN fun s => bestTo said k s folk
def saidOk (k folk : Int) (said : List (List Int)) : Bool :=
  decide (1 ≤ k ∧ k ≤ 10 ∧ 1 ≤ folk ∧ folk ≤ 20 ∧ (said.length : Int) = k) && said.all (bitsB folk)

theorem wrongTo_le (said : List (List Int)) (k s f m : Nat) : wrongTo said k s f m ≤ m := by
  induction m with
  | zero => exact Nat.le_refl _
  | succ m ih => simp only [wrongTo]; split <;> omega
theorem bestTo_le (said : List (List Int)) (k s f : Nat) : bestTo said k s f ≤ k := by
  induction f with
  | zero => exact Nat.le_refl _
  | succ f ih => simp only [bestTo]; omega
theorem bestTo_mono (said : List (List Int)) (k s : Nat) {f g : Nat} (h : f ≤ g) : bestTo said k s g ≤ bestTo said k s f := by
  induction g with
  | zero => obtain rfl : f = 0 := by omega
            exact Nat.le_refl _
  | succ g ih =>
    rcases Nat.lt_or_ge f (g + 1) with h1 | h1
    · have := ih (by omega)
      simp only [bestTo]; omega
    · obtain rfl : f = g + 1 := by omega
      exact Nat.le_refl _
theorem sumTo_le (said : List (List Int)) (k folk s : Nat) : sumTo said k folk s ≤ s * k := by
  rw [← sumN_const k s]
  exact sumN_le fun i _ => bestTo_le said k i folk

/-- What is said is 0 or 1 wherever it is asked for. -/
def Bits (said : List (List Int)) (k folk : Nat) : Prop := ∀ i f, i < k → f < folk → (said.getD i []).getD f 0 = 0 ∨ (said.getD i []).getD f 0 = 1
theorem bits_of {k folk : Nat} {said : List (List Int)} (h : saidOk k folk said = true) : Bits said k folk := by
  intro i f hi hf
  unfold saidOk at h
  simp only [Bool.and_eq_true, decide_eq_true_eq, List.all_eq_true] at h
  obtain ⟨⟨_, _, _, _, hl⟩, h⟩ := h
  have hil : i < said.length := by omega
  have h1 := h _ (List.getElem_mem hil)
  unfold bitsB at h1
  simp only [Bool.and_eq_true, decide_eq_true_eq, List.all_eq_true] at h1
  obtain ⟨h2, h3⟩ := h1
  have hfl : f < said[i].length := by omega
  have h4 := h3 _ (List.getElem_mem hfl)
  rw [bitB_iff] at h4
  have e : (said.getD i []).getD f 0 = said[i][f] := by
    simp [List.getD_eq_getElem?_getD, hil, hfl]
  rw [e]; exact h4
theorem night_compl (k s i : Nat) (hs : s < 2 ^ k) (hi : i < k) : nightB k (2 ^ k - 1 - s) i = 1 - nightB k s i := by
  unfold nightB
  have e : 2 ^ k - 1 - s = 2 ^ k - (s + 1) := by omega
  rw [e, Nat.testBit_two_pow_sub_succ hs]
  have : k - 1 - i < k := by omega
  cases h : s.testBit (k - 1 - i) <;> simp [this]
theorem wrong_compl {said : List (List Int)} {k folk f : Nat} (hb : Bits said k folk) (hf : f < folk) (s : Nat) (hs : s < 2 ^ k) (m : Nat) (hm : m ≤ k) :
    wrongTo said k s f m + wrongTo said k (2 ^ k - 1 - s) f m = m := by
  induction m with
  | zero => rfl
  | succ m ih =>
    have h1 := ih (by omega)
    have h2 := night_compl k s m hs (by omega)
    have h3 := hb m f (by omega) hf
    simp only [wrongTo]
    rw [h2]
    have h4 : nightB k s m = 0 ∨ nightB k s m = 1 := by unfold nightB; split <;> simp
    rcases h3 with h3 | h3 <;> rcases h4 with h4 | h4 <;> rw [h3, h4] <;> simp <;> omega
theorem best_compl {said : List (List Int)} {k folk : Nat} (hb : Bits said k folk) (hf : 1 ≤ folk) (s : Nat) (hs : s < 2 ^ k) :
    bestTo said k s folk + bestTo said k (2 ^ k - 1 - s) folk ≤ k := by
  have h1 := bestTo_mono said k s hf
  have h2 := bestTo_mono said k (2 ^ k - 1 - s) hf
  have h3 := wrong_compl hb (by omega : 0 < folk) s hs k (Nat.le_refl _)
  simp only [bestTo] at h1 h2
  omega
theorem best_one {said : List (List Int)} {k : Nat} (hb : Bits said k 1) (s : Nat) (hs : s < 2 ^ k) :
    bestTo said k s 1 + bestTo said k (2 ^ k - 1 - s) 1 = k := by
  have h3 := wrong_compl hb (by omega : 0 < 1) s hs k (Nat.le_refl _)
  simp only [bestTo]
  omega
theorem sum_twice (g : Nat → Nat) (n : Nat) : sumN (fun s => g s + g (n - 1 - s)) n = 2 * sumN g n := by
  rw [sumN_add, sumN_rev]; omega
theorem twice_le {said : List (List Int)} {k folk : Nat} (hb : Bits said k folk) (hf : 1 ≤ folk) : 2 * sumTo said k folk (2 ^ k) ≤ k * 2 ^ k := by
  unfold sumTo
  rw [← sum_twice, Nat.mul_comm k, ← sumN_const k (2 ^ k)]
  exact sumN_le fun s hs => best_compl hb hf s hs
theorem twice_one {said : List (List Int)} {k : Nat} (hb : Bits said k 1) : 2 * sumTo said k 1 (2 ^ k) = k * 2 ^ k := by
  unfold sumTo
  rw [← sum_twice, Nat.mul_comm k, ← sumN_const k (2 ^ k)]
  exact sumN_congr fun s hs => best_one hb s hs

/-! ### Regret -/
def regN (k folk : Nat) (said : List (List Int)) : Nat := ratN (k * 2 ^ (k - 1) - sumTo said k folk (2 ^ k)) (2 ^ k)
def regD (k folk : Nat) (said : List (List Int)) : Nat := ratD (k * 2 ^ (k - 1) - sumTo said k folk (2 ^ k)) (2 ^ k)
theorem pow_pred {k : Nat} (h : 1 ≤ k) : 2 ^ k = 2 * 2 ^ (k - 1) := by
  obtain ⟨j, rfl⟩ : ∃ j, k = j + 1 := ⟨k - 1, by omega⟩
  rw [Nat.pow_succ, Nat.add_sub_cancel, Nat.mul_comm]
theorem sum_le {said : List (List Int)} {k folk : Nat} (hb : Bits said k folk) (hk : 1 ≤ k) (hf : 1 ≤ folk) : sumTo said k folk (2 ^ k) ≤ k * 2 ^ (k - 1) := by
  have h := twice_le hb hf
  have e : k * 2 ^ k = 2 * (k * 2 ^ (k - 1)) := by rw [pow_pred hk]; ac_rfl
  omega
theorem reg_double {said : List (List Int)} {k folk : Nat} (hk : 1 ≤ k) :
    ratN (k * 2 ^ k - 2 * sumTo said k folk (2 ^ k)) (2 * 2 ^ k) = regN k folk said ∧ ratD (k * 2 ^ k - 2 * sumTo said k folk (2 ^ k)) (2 * 2 ^ k) = regD k folk said := by
  have e : k * 2 ^ k - 2 * sumTo said k folk (2 ^ k) = 2 * (k * 2 ^ (k - 1) - sumTo said k folk (2 ^ k)) := by
    have : k * 2 ^ k = 2 * (k * 2 ^ (k - 1)) := by rw [pow_pred hk]; ac_rfl
    rw [this, Nat.mul_sub]
  rw [e]
  exact rat_scale 2 _ _ (by omega) (Nat.pow_pos (by omega))
end Go.Proofs.Ytfaenbaaadjbbaa
