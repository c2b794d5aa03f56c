/- Plain laws: means of goals, guesses and losses, and the goals of foretellers. No condition. -/
import Derived.Test.YtfaenbaaadjbbaaPlain3
namespace Go.Proofs.Ytfaenbaaadjbbaa

def sumI (g : Nat → Int) : Nat → Int
  | 0 => 0
  | n + 1 => sumI g n + g n
theorem sumI_split (g : Nat → Int) (a b : Nat) : sumI g (a + b) = sumI g a + sumI (fun i => g (a + i)) b := by
  induction b with
  | zero => simp [sumI]
  | succ b ih => show sumI g (a + b) + g (a + b) = _; rw [ih]; simp [sumI]; omega
theorem sumI_congr {g h : Nat → Int} {n : Nat} (e : ∀ i, i < n → g i = h i) : sumI g n = sumI h n := by
  induction n with
  | zero => rfl
  | succ n ih => simp only [sumI]; rw [ih fun i hi => e i (by omega), e n (by omega)]
theorem sumI_le {g h : Nat → Int} {n : Nat} (e : ∀ i, i < n → g i ≤ h i) : sumI g n ≤ sumI h n := by
  induction n with
  | zero => exact Int.le_refl _
  | succ n ih => simp only [sumI]; have := ih fun i hi => e i (by omega); have := e n (by omega); omega
theorem sumI_add (g h : Nat → Int) (n : Nat) : sumI (fun i => g i + h i) n = sumI g n + sumI h n := by
  induction n with
  | zero => rfl
  | succ n ih => simp only [sumI]; rw [ih]; omega
theorem sumI_const (c : Int) (n : Nat) : sumI (fun _ => c) n = n * c := by
  induction n with
  | zero => simp [sumI]
  | succ n ih => simp only [sumI]; rw [ih, Int.natCast_succ, Int.add_mul]; omega
/-- The sum of the goals of all series that begin so. -/
def blk (goal : List Int) (j i : Nat) : Int := sumI (fun t => goal.getD (i * 2 ^ j + t) 0) (2 ^ j)
theorem blk_succ (goal : List Int) (j i : Nat) : blk goal (j + 1) i = blk goal j (2 * i) + blk goal j (2 * i + 1) := by
  unfold blk
  have e : 2 ^ (j + 1) = 2 ^ j + 2 ^ j := by rw [Nat.pow_succ]; omega
  rw [e, sumI_split]
  have h1 : i * (2 ^ j + 2 ^ j) = 2 * i * 2 ^ j := by rw [Nat.mul_add, Nat.mul_comm 2 i, Nat.mul_assoc, Nat.two_mul, Nat.mul_add]
  have h2 : (2 * i + 1) * 2 ^ j = 2 * i * 2 ^ j + 2 ^ j := by rw [Nat.add_mul, Nat.one_mul]
  rw [h1, h2]
  congr 1
  exact sumI_congr fun t _ => by rw [Nat.add_assoc]
theorem blk_zero (goal : List Int) (i : Nat) : blk goal 0 i = goal.getD i 0 := by simp [blk, sumI]
theorem blk_bounds (goal : List Int) (m : Int) (h : ∀ i, 0 ≤ goal.getD i 0 ∧ goal.getD i 0 ≤ m) (j i : Nat) : 0 ≤ blk goal j i ∧ blk goal j i ≤ 2 ^ j * m := by
  induction j generalizing i with
  | zero => rw [blk_zero]; have := h i; omega
  | succ j ih =>
    have h1 := ih (2 * i)
    have h2 := ih (2 * i + 1)
    rw [blk_succ, Int.pow_succ]
    have e : (2 : Int) ^ j * 2 * m = 2 ^ j * m + 2 ^ j * m := by rw [Int.mul_comm _ 2, Int.mul_assoc]; omega
    rw [e]; omega

theorem lev_half (k : Nat) (goal : List Int) (j i : Nat) : 2 * levG k goal (j + 1) i ≤ levG k goal j (2 * i) + levG k goal j (2 * i + 1) - 60 * 2 ^ k := by
  show 2 * min (min (levG k goal j (2 * i)) (levG k goal j (2 * i + 1))) ((levG k goal j (2 * i) + levG k goal j (2 * i + 1) - 60 * 2 ^ k) / 2) ≤ _
  omega
theorem lev_mean (k : Nat) (goal : List Int) (j i : Nat) : 2 ^ (j + 1) * levG k goal j i ≤ 2 * 2 ^ k * blk goal j i - j * (2 ^ j * (60 * 2 ^ k)) := by
  induction j generalizing i with
  | zero => rw [blk_zero]; show 2 ^ 1 * (goal.getD i 0 * 2 ^ k) ≤ _; rw [show (2 : Int) ^ 1 = 2 from rfl]; generalize (2 : Int) ^ k = p; rw [Int.mul_comm (goal.getD i 0), ← Int.mul_assoc]; simp
  | succ j ih =>
    have h1 := ih (2 * i)
    have h2 := ih (2 * i + 1)
    have h3 := lev_half k goal j i
    have hp : (0 : Int) < 2 ^ (j + 1) := Int.pow_pos (by decide)
    have h4 := Int.mul_le_mul_of_nonneg_left h3 (by omega : (0 : Int) ≤ 2 ^ (j + 1))
    rw [blk_succ, Int.pow_succ 2 (j + 1)]
    have e0 : (2 : Int) ^ (j + 1) = 2 * 2 ^ j := by rw [Int.pow_succ, Int.mul_comm]
    rw [Int.mul_sub, Int.mul_add] at h4
    rw [e0] at h1 h2 h4 ⊢
    generalize (2 : Int) ^ j = q at *
    generalize (60 : Int) * 2 ^ k = one at *
    generalize (2 : Int) * 2 ^ k = P at *
    generalize levG k goal j (2 * i) = a at *
    generalize levG k goal j (2 * i + 1) = b at *
    generalize levG k goal (j + 1) i = c at *
    rw [Int.mul_add]
    have e1 : ((j + 1 : Nat) : Int) * (2 * q * one) = j * (q * one) + j * (q * one) + 2 * q * one := by
      rw [Int.natCast_add, Int.natCast_one, Int.add_mul, Int.one_mul, Int.mul_assoc 2 q]
      have : (j : Int) * (2 * (q * one)) = 2 * (j * (q * one)) := by ac_rfl
      rw [this]; omega
    rw [e1]
    have e2 : 2 * q * 2 * c = 2 * q * (2 * c) := by rw [Int.mul_assoc]
    rw [e2]
    omega
theorem can_mean {k : Nat} {goal : List Int} (h : canB k goal = true) : 30 * k * 2 ^ k ≤ blk goal k 0 := by
  unfold canB at h
  have h0 := of_decide_eq_true h
  have h1 := lev_mean k goal k 0
  have hp : (0 : Int) < 2 ^ k := Int.pow_pos (by decide)
  have h2 : 0 ≤ (2 : Int) ^ (k + 1) * levG k goal k 0 := Int.mul_nonneg (Int.le_of_lt (Int.pow_pos (by decide))) h0
  generalize (2 : Int) ^ k = q at *
  generalize blk goal k 0 = s at *
  have h3 : 2 * q * (30 * k * q) ≤ 2 * q * s := by
    have : 2 * q * (30 * k * q) = k * (q * (60 * q)) := by
      rw [show (60 : Int) = 2 * 30 from rfl]; ac_rfl
    rw [this]; omega
  exact Int.le_of_mul_le_mul_left h3 (by omega)
/-- The means after any nights with 0 and with 1 differ by at most 60. -/
def Near (k : Nat) (goal : List Int) : Prop := ∀ j i, j < k → (i + 1) * 2 ^ (j + 1) ≤ 2 ^ k → blk goal j (2 * i) - blk goal j (2 * i + 1) ≤ 60 * 2 ^ j ∧ blk goal j (2 * i + 1) - blk goal j (2 * i) ≤ 60 * 2 ^ j
theorem near_lev {k : Nat} {goal : List Int} (hn : Near k goal) (j i : Nat) (hj : j ≤ k) (hi : (i + 1) * 2 ^ j ≤ 2 ^ k) : 2 ^ (j + 1) * levG k goal j i = 2 * 2 ^ k * blk goal j i - j * (2 ^ j * (60 * 2 ^ k)) := by
  induction j generalizing i with
  | zero => rw [blk_zero]; show 2 ^ 1 * (goal.getD i 0 * 2 ^ k) = _; rw [show (2 : Int) ^ 1 = 2 from rfl]; generalize (2 : Int) ^ k = p; rw [Int.mul_comm (goal.getD i 0), ← Int.mul_assoc]; simp
  | succ j ih =>
    have hpow : 2 ^ (j + 1) = 2 * 2 ^ j := by rw [Nat.pow_succ, Nat.mul_comm]
    have hh : (i + 1) * (2 * 2 ^ j) = (2 * i + 1 + 1) * 2 ^ j := by rw [← Nat.mul_assoc]; congr 1; omega
    have hlo : (2 * i + 1) * 2 ^ j ≤ (2 * i + 1 + 1) * 2 ^ j := Nat.mul_le_mul_right _ (by omega)
    have hi' := hi
    rw [hpow, hh] at hi'
    have h1 := ih (2 * i) (by omega) (by omega)
    have h2 := ih (2 * i + 1) (by omega) (by omega)
    obtain ⟨n1, n2⟩ := hn j i (by omega) hi
    obtain ⟨m, hm⟩ := lev_even k goal j i (by omega)
    have hq : (0 : Int) < 2 ^ j := Int.pow_pos (by decide)
    have hP : (0 : Int) < 2 ^ k := Int.pow_pos (by decide)
    have e0 : (2 : Int) ^ (j + 1) = 2 * 2 ^ j := by rw [Int.pow_succ, Int.mul_comm]
    have g1 : levG k goal j (2 * i) - levG k goal j (2 * i + 1) ≤ 60 * 2 ^ k := by
      rw [e0] at h1 h2
      generalize (2 : Int) ^ j = q at *
      generalize (2 : Int) ^ k = P at *
      generalize levG k goal j (2 * i) = a at *
      generalize levG k goal j (2 * i + 1) = b at *
      apply Int.le_of_mul_le_mul_left _ (by omega : (0 : Int) < 2 * q)
      have h3 := Int.mul_le_mul_of_nonneg_left n1 (by omega : 0 ≤ 2 * P)
      rw [Int.mul_sub] at h3
      have e3 : 2 * P * (60 * q) = 2 * q * (60 * P) := by ac_rfl
      rw [Int.mul_sub]; omega
    have g2 : levG k goal j (2 * i + 1) - levG k goal j (2 * i) ≤ 60 * 2 ^ k := by
      rw [e0] at h1 h2
      generalize (2 : Int) ^ j = q at *
      generalize (2 : Int) ^ k = P at *
      generalize levG k goal j (2 * i) = a at *
      generalize levG k goal j (2 * i + 1) = b at *
      apply Int.le_of_mul_le_mul_left _ (by omega : (0 : Int) < 2 * q)
      have h3 := Int.mul_le_mul_of_nonneg_left n2 (by omega : 0 ≤ 2 * P)
      rw [Int.mul_sub] at h3
      have e3 : 2 * P * (60 * q) = 2 * q * (60 * P) := by ac_rfl
      rw [Int.mul_sub]; omega
    have h5 : 2 * levG k goal (j + 1) i = levG k goal j (2 * i) + levG k goal j (2 * i + 1) - 60 * 2 ^ k := by
      show 2 * min (min (levG k goal j (2 * i)) (levG k goal j (2 * i + 1))) ((levG k goal j (2 * i) + levG k goal j (2 * i + 1) - 60 * 2 ^ k) / 2) = _
      omega
    rw [blk_succ, Int.pow_succ 2 (j + 1)]
    rw [e0] at h1 h2 ⊢
    have h6 : 2 * 2 ^ j * 2 * levG k goal (j + 1) i = 2 * 2 ^ j * (levG k goal j (2 * i) + levG k goal j (2 * i + 1) - 60 * 2 ^ k) := by rw [← h5, Int.mul_assoc (2 * 2 ^ j)]
    rw [h6, Int.mul_sub, Int.mul_add, h1, h2]
    generalize (2 : Int) ^ j = q at *
    generalize (60 : Int) * 2 ^ k = one at *
    generalize (2 : Int) * 2 ^ k = P at *
    rw [Int.mul_add]
    have e1 : ((j + 1 : Nat) : Int) * (2 * q * one) = j * (q * one) + j * (q * one) + 2 * q * one := by
      rw [Int.natCast_add, Int.natCast_one, Int.add_mul, Int.one_mul, Int.mul_assoc 2 q]
      have : (j : Int) * (2 * (q * one)) = 2 * (j * (q * one)) := by ac_rfl
      rw [this]; omega
    rw [e1]
    omega
theorem near_can {k : Nat} {goal : List Int} (hn : Near k goal) (hs : 30 * k * 2 ^ k ≤ blk goal k 0) : canB k goal = true := by
  have h1 := near_lev hn k 0 (Nat.le_refl _) (by omega)
  unfold canB
  apply decide_eq_true
  have hp : (0 : Int) < 2 ^ k := Int.pow_pos (by decide)
  have hp1 : (0 : Int) < 2 ^ (k + 1) := Int.pow_pos (by decide)
  apply Int.le_of_mul_le_mul_left _ hp1
  rw [h1, Int.mul_zero]
  generalize (2 : Int) ^ k = q at *
  generalize blk goal k 0 = s at *
  have h3 := Int.mul_le_mul_of_nonneg_left hs (by omega : 0 ≤ 2 * q)
  have : 2 * q * (30 * k * q) = k * (q * (60 * q)) := by
    rw [show (60 : Int) = 2 * 30 from rfl]; ac_rfl
  omega

/-! ### guesses and losses -/
/-- One sixtieth times how many series begin so, with one night more. -/
def denG (k m : Nat) : Nat := 60 * 2 ^ (k - m - 1)
/-- What is guessed after m nights that are the number b, as a part of 2 denG. -/
def gv (k : Nat) (goal : List Int) (m b : Nat) : Nat :=
  (max 0 (min (2 * (denG k m : Int)) ((denG k m : Int) + blk goal (k - m - 1) (2 * b) - blk goal (k - m - 1) (2 * b + 1)))).toNat
theorem gv_le (k : Nat) (goal : List Int) (m b : Nat) : gv k goal m b ≤ 2 * denG k m := by unfold gv; omega
theorem denG_pos (k m : Nat) : 0 < denG k m := Nat.mul_pos (by omega) (Nat.pow_pos (by omega))
/-- What is lost in the night m of a series. -/
def lostIn (k : Nat) (goal : List Int) (s m : Nat) : Nat :=
  if s.testBit (k - 1 - m) then 2 * denG k m - gv k goal m (s / 2 ^ (k - m)) else gv k goal m (s / 2 ^ (k - m))
def lossTo (k : Nat) (goal : List Int) (s : Nat) : Nat → Nat := sumN fun m => lostIn k goal s m * 2 ^ (m + 1)
def allG (k : Nat) : Nat := 120 * 2 ^ k
theorem allG_pos (k : Nat) : 0 < allG k := Nat.mul_pos (by omega) (Nat.pow_pos (by omega))
theorem allG_eq {k m : Nat} (h : m < k) : allG k = 2 ^ (m + 1) * (2 * denG k m) := by
  unfold allG denG
  have : 2 ^ k = 2 ^ (m + 1) * 2 ^ (k - m - 1) := by
    rw [← Nat.pow_add]; congr 1; omega
  rw [this, show (120 : Nat) = 2 * 60 from rfl]; ac_rfl
theorem lostIn_le (k : Nat) (goal : List Int) (s m : Nat) : lostIn k goal s m ≤ 2 * denG k m := by
  have := gv_le k goal m (s / 2 ^ (k - m))
  unfold lostIn; split <;> omega
theorem lossTo_le (k : Nat) (goal : List Int) (s m : Nat) (h : m ≤ k) : lossTo k goal s m ≤ m * allG k := by
  induction m with
  | zero => simp [lossTo, sumN]
  | succ m ih =>
    have h1 := ih (by omega)
    have h2 := Nat.mul_le_mul_right (2 ^ (m + 1)) (lostIn_le k goal s m)
    have e := allG_eq (show m < k by omega)
    have : lossTo k goal s (m + 1) = lossTo k goal s m + lostIn k goal s m * 2 ^ (m + 1) := rfl
    rw [this, Nat.add_mul, Nat.one_mul]
    have e2 : 2 * denG k m * 2 ^ (m + 1) = allG k := by rw [e]; ac_rfl
    omega
/-- One night more is added in lowest terms. -/
theorem loss_step {k m : Nat} (goal : List Int) (s : Nat) (h : m < k) :
    let x := ratN (lossTo k goal s m) (allG k)
    let y := ratD (lossTo k goal s m) (allG k)
    let u := ratN (gv k goal m (s / 2 ^ (k - m))) (2 * denG k m)
    let v := ratD (gv k goal m (s / 2 ^ (k - m))) (2 * denG k m)
    let u' := if s.testBit (k - 1 - m) then v - u else u
    ratN (x * v + u' * y) (y * v) = ratN (lossTo k goal s (m + 1)) (allG k) ∧ ratD (x * v + u' * y) (y * v) = ratD (lossTo k goal s (m + 1)) (allG k) := by
  intro x y u v u'
  have hd : 0 < 2 * denG k m := by have := denG_pos k m; omega
  have hy : 0 < y := ratD_pos (allG_pos k)
  have hv : 0 < v := ratD_pos hd
  refine rat_eq (Nat.mul_pos hy hv) (allG_pos k) ?_
  have c1 : x * allG k = lossTo k goal s m * y := rat_cross _ _
  have c2 : u * (2 * denG k m) = gv k goal m (s / 2 ^ (k - m)) * v := rat_cross _ _
  have c3 : u' * (2 * denG k m) = lostIn k goal s m * v := by
    unfold lostIn
    show (if s.testBit (k - 1 - m) then v - u else u) * (2 * denG k m) = _
    split
    · rw [Nat.sub_mul, Nat.sub_mul, c2]
      congr 1; ac_rfl
    · exact c2
  have e := allG_eq h
  have hs : lossTo k goal s (m + 1) = lossTo k goal s m + lostIn k goal s m * 2 ^ (m + 1) := rfl
  rw [hs]
  calc (x * v + u' * y) * allG k = x * allG k * v + u' * y * (2 ^ (m + 1) * (2 * denG k m)) := by rw [← e, Nat.add_mul]; ac_rfl
    _ = lossTo k goal s m * y * v + 2 ^ (m + 1) * y * (u' * (2 * denG k m)) := by rw [c1]; ac_rfl
    _ = lossTo k goal s m * y * v + 2 ^ (m + 1) * y * (lostIn k goal s m * v) := by rw [c3]
    _ = (lossTo k goal s m + lostIn k goal s m * 2 ^ (m + 1)) * (y * v) := by rw [Nat.add_mul]; ac_rfl

theorem near_lost {k : Nat} {goal : List Int} (hn : Near k goal) (s m : Nat) (hm : m < k) (hs : s < 2 ^ k) :
    (lostIn k goal s m : Int) = denG k m + 2 * blk goal (k - m - 1) (s / 2 ^ (k - m - 1)) - blk goal (k - m) (s / 2 ^ (k - m)) := by
  have hpow : 2 ^ (k - m) = 2 ^ (k - m - 1) * 2 := by rw [← Nat.pow_succ]; congr 1; omega
  have hsplit : s / 2 ^ (k - m) = s / 2 ^ (k - m - 1) / 2 := by rw [hpow, Nat.div_div_eq_div_mul]
  have hrange : (s / 2 ^ (k - m) + 1) * 2 ^ (k - m) ≤ 2 ^ k := by
    have h1 : s / 2 ^ (k - m) < 2 ^ m := by
      rw [Nat.div_lt_iff_lt_mul (Nat.pow_pos (by omega)), ← Nat.pow_add]
      have : m + (k - m) = k := by omega
      rw [this]; exact hs
    calc (s / 2 ^ (k - m) + 1) * 2 ^ (k - m) ≤ 2 ^ m * 2 ^ (k - m) := Nat.mul_le_mul_right _ h1
      _ = 2 ^ k := by rw [← Nat.pow_add]; congr 1; omega
  have e1 : k - m - 1 + 1 = k - m := by omega
  obtain ⟨n1, n2⟩ := hn (k - m - 1) (s / 2 ^ (k - m)) (by omega) (by rw [e1]; exact hrange)
  have hb : blk goal (k - m) (s / 2 ^ (k - m)) = blk goal (k - m - 1) (2 * (s / 2 ^ (k - m))) + blk goal (k - m - 1) (2 * (s / 2 ^ (k - m)) + 1) := by
    rw [← blk_succ, e1]
  have hd : (denG k m : Int) = 60 * 2 ^ (k - m - 1) := by unfold denG; simp
  have ebit : s.testBit (k - 1 - m) = decide (s / 2 ^ (k - m - 1) % 2 = 1) := by
    have : k - 1 - m = k - m - 1 := by omega
    rw [Nat.testBit_eq_decide_div_mod_eq, this]
  unfold lostIn gv
  rw [ebit, hb]
  have hq : s / 2 ^ (k - m - 1) = 2 * (s / 2 ^ (k - m)) + s / 2 ^ (k - m - 1) % 2 := by rw [hsplit]; omega
  generalize s / 2 ^ (k - m) = b at *
  rw [← hd] at n1 n2
  by_cases hbit : s / 2 ^ (k - m - 1) % 2 = 1
  · rw [hbit] at hq ⊢
    rw [hq]
    simp only [decide_true, if_true]
    generalize blk goal (k - m - 1) (2 * b) = z at *
    generalize blk goal (k - m - 1) (2 * b + 1) = o at *
    generalize denG k m = d at *
    omega
  · have hbit0 : s / 2 ^ (k - m - 1) % 2 = 0 := by omega
    rw [hbit0] at hq ⊢
    rw [hq]
    rw [if_neg (by simp), Nat.add_zero]
    generalize blk goal (k - m - 1) (2 * b) = z at *
    generalize blk goal (k - m - 1) (2 * b + 1) = o at *
    generalize denG k m = d at *
    omega
theorem near_loss {k : Nat} {goal : List Int} (hn : Near k goal) (s : Nat) (hs : s < 2 ^ k) (m : Nat) (hm : m ≤ k) :
    (lossTo k goal s m : Int) = m * (60 * 2 ^ k) + 2 * (2 ^ m * blk goal (k - m) (s / 2 ^ (k - m))) - 2 * blk goal k 0 := by
  induction m with
  | zero => simp [lossTo, sumN, Nat.div_eq_of_lt hs]
  | succ m ih =>
    have h1 := ih (by omega)
    have h2 := near_lost hn s m (by omega) hs
    have hstep : lossTo k goal s (m + 1) = lossTo k goal s m + lostIn k goal s m * 2 ^ (m + 1) := rfl
    rw [hstep, Int.natCast_add, h1, Int.natCast_mul, h2]
    have e1 : k - (m + 1) = k - m - 1 := by omega
    rw [e1]
    have e2 : (denG k m : Int) * ((2 ^ (m + 1) : Nat) : Int) = 60 * 2 ^ k := by
      unfold denG
      rw [← Int.natCast_mul, Nat.mul_assoc, ← Nat.pow_add]
      have : k - m - 1 + (m + 1) = k := by omega
      rw [this]; simp
    have e3 : ((2 ^ (m + 1) : Nat) : Int) = 2 * 2 ^ m := by rw [Nat.pow_succ]; simp [Int.mul_comm]
    have e4 : (2 : Int) ^ (m + 1) = 2 * 2 ^ m := by rw [Int.pow_succ, Int.mul_comm]
    rw [Int.sub_mul, Int.add_mul, e2, e3, e4]
    generalize blk goal (k - m - 1) (s / 2 ^ (k - m - 1)) = t
    generalize blk goal (k - m) (s / 2 ^ (k - m)) = u
    generalize blk goal k 0 = r
    generalize (60 : Int) * 2 ^ k = P
    generalize (2 : Int) ^ m = q
    rw [Int.natCast_add, Int.natCast_one, Int.add_mul, Int.one_mul]
    have e5 : 2 * t * (2 * q) = 2 * (2 * q * t) := by ac_rfl
    have e6 : u * (2 * q) = 2 * (q * u) := by ac_rfl
    rw [e5, e6]
    omega
/-- Loss is at most the goal. -/
theorem near_good {k : Nat} {goal : List Int} (hn : Near k goal) (hsum : 30 * k * 2 ^ k ≤ blk goal k 0) (s : Nat) (hs : s < 2 ^ k) :
    60 * (ratN (lossTo k goal s k) (allG k) : Int) ≤ goal.getD s 0 * ratD (lossTo k goal s k) (allG k) := by
  have h1 := near_loss hn s hs k (Nat.le_refl _)
  rw [Nat.sub_self, Nat.pow_zero, Nat.div_one, blk_zero] at h1
  have hc := rat_cross (lossTo k goal s k) (allG k)
  have hy := ratD_pos (a := lossTo k goal s k) (allG_pos k)
  generalize ratN (lossTo k goal s k) (allG k) = x at *
  generalize ratD (lossTo k goal s k) (allG k) = y at *
  generalize lossTo k goal s k = L at *
  have hp : (0 : Int) < 2 ^ k := Int.pow_pos (by decide)
  have hL : (L : Int) ≤ 2 * (2 ^ k * goal.getD s 0) := by
    have : (k : Int) * (60 * 2 ^ k) = 2 * (30 * k * 2 ^ k) := by rw [show (60 : Int) = 2 * 30 from rfl]; ac_rfl
    omega
  have hall : ((allG k : Nat) : Int) = 120 * 2 ^ k := by unfold allG; simp
  have hc' : (x : Int) * (120 * 2 ^ k) = L * y := by rw [← hall]; exact_mod_cast hc
  have h3 : (L : Int) * y ≤ 2 * (2 ^ k * goal.getD s 0) * y := Int.mul_le_mul_of_nonneg_right hL (by omega)
  rw [← hc'] at h3
  generalize (2 : Int) ^ k = q at *
  generalize goal.getD s 0 = g at *
  apply Int.le_of_mul_le_mul_left _ (by omega : 0 < 2 * q)
  have e1 : 2 * q * (60 * x) = x * (120 * q) := by rw [show (120 : Int) = 2 * 60 from rfl]; ac_rfl
  have e2 : 2 * q * (g * y) = 2 * (q * g) * y := by ac_rfl
  rw [e1, e2]; exact h3

/-! ### the goals of foretellers -/
theorem wrong_flip (said : List (List Int)) (k s t f m : Nat) (j : Nat) (h : ∀ i, i ≠ j → s.testBit i = t.testBit i) : wrongTo said k s f m ≤ wrongTo said k t f m + (if k - m ≤ j then 1 else 0) ∨ k < m := by
  induction m with
  | zero => exact .inl (by simp [wrongTo])
  | succ m ih =>
    rcases Nat.lt_or_ge k (m + 1) with hk | hk
    · exact .inr hk
    · left
      have ih := ih.resolve_right (by omega)
      simp only [wrongTo]
      by_cases e : k - 1 - m = j
      · have h1 : ¬ k - m ≤ j := by omega
        have h2 : k - (m + 1) ≤ j := by omega
        rw [if_neg h1] at ih
        rw [if_pos h2]
        split <;> split <;> omega
      · have hb : nightB k s m = nightB k t m := by unfold nightB; rw [h _ e]
        rw [hb]
        have h3 : (if k - m ≤ j then 1 else 0) ≤ (if k - (m + 1) ≤ j then 1 else 0) := by split <;> split <;> omega
        split <;> omega
theorem best_flip (said : List (List Int)) (k s t f : Nat) (j : Nat) (h : ∀ i, i ≠ j → s.testBit i = t.testBit i) : bestTo said k s f ≤ bestTo said k t f + 1 := by
  induction f with
  | zero => simp [bestTo]
  | succ f ih =>
    simp only [bestTo]
    have h1 := (wrong_flip said k s t f k j h).resolve_right (by omega)
    have : (if k - k ≤ j then 1 else 0) ≤ 1 := by split <;> omega
    omega
def goalF (said : List (List Int)) (k folk : Nat) (r : Int) : List Int := (List.range (2 ^ k)).map fun s => 60 * (bestTo said k s folk : Int) + r
theorem goalF_get {said : List (List Int)} {k folk : Nat} {r : Int} {s : Nat} (h : s < 2 ^ k) : (goalF said k folk r).getD s 0 = 60 * (bestTo said k s folk : Int) + r := by
  simp [goalF, List.getD_eq_getElem?_getD, h]
theorem goalF_near (said : List (List Int)) (k folk : Nat) (r : Int) : Near k (goalF said k folk r) := by
  intro j i hj hi
  have hpow : 2 ^ (j + 1) = 2 ^ j + 2 ^ j := by rw [Nat.pow_succ]; omega
  have e2 : (2 * i + 1) * 2 ^ j = 2 * i * 2 ^ j + 2 ^ j := by rw [Nat.add_mul, Nat.one_mul]
  have e3 : (i + 1) * 2 ^ (j + 1) = 2 * i * 2 ^ j + 2 ^ j + 2 ^ j := by
    rw [hpow, Nat.add_mul, Nat.mul_add, Nat.one_mul, Nat.mul_comm 2 i, Nat.mul_assoc, Nat.two_mul, Nat.mul_add]; omega
  have hlt : 2 * i * 2 ^ j + 2 ^ j + 2 ^ j ≤ 2 ^ k := by omega
  have hjp : 0 < 2 ^ j := Nat.pow_pos (by omega)
  have hx : ∀ t, t < 2 ^ j → ∀ b, b ≠ j → (2 * i * 2 ^ j + t).testBit b = (2 * i * 2 ^ j + 2 ^ j + t).testBit b := by
    intro t ht b hb
    have d1 : 2 * i * 2 ^ j + t = 2 ^ j * (2 * i) + t := by rw [Nat.mul_comm]
    have d2 : 2 * i * 2 ^ j + 2 ^ j + t = 2 ^ j * (2 * i + 1) + t := by rw [Nat.mul_add, Nat.mul_one, Nat.mul_comm (2 ^ j)]
    rw [d1, d2, Nat.testBit_two_pow_mul_add _ ht, Nat.testBit_two_pow_mul_add _ ht]
    by_cases hlt : b < j
    · rw [if_pos hlt, if_pos hlt]
    · rw [if_neg hlt, if_neg hlt]
      obtain ⟨c, hc⟩ : ∃ c, b - j = c + 1 := ⟨b - j - 1, by omega⟩
      rw [hc, Nat.testBit_succ, Nat.testBit_succ]
      congr 1; omega
  unfold blk
  rw [e2]
  have hsum : ∀ (a b : Nat), a + 2 ^ j ≤ 2 ^ k → b + 2 ^ j ≤ 2 ^ k → (∀ t, t < 2 ^ j → bestTo said k (a + t) folk ≤ bestTo said k (b + t) folk + 1) →
      sumI (fun t => (goalF said k folk r).getD (a + t) 0) (2 ^ j) ≤ sumI (fun t => (goalF said k folk r).getD (b + t) 0) (2 ^ j) + 60 * 2 ^ j := by
    intro a b ha hb h
    have hc : (60 : Int) * 2 ^ j = sumI (fun _ => 60) (2 ^ j) := by rw [sumI_const, Int.mul_comm]; simp
    rw [hc, ← sumI_add]
    refine sumI_le fun t ht => ?_
    rw [goalF_get (by omega), goalF_get (by omega)]
    have := h t ht
    omega
  have s1 := hsum (2 * i * 2 ^ j) (2 * i * 2 ^ j + 2 ^ j) (by omega) (by omega) (fun t ht => best_flip said k _ _ folk j (hx t ht))
  have s2 := hsum (2 * i * 2 ^ j + 2 ^ j) (2 * i * 2 ^ j) (by omega) (by omega) (fun t ht => best_flip said k _ _ folk j (fun b hb => (hx t ht b hb).symm))
  omega
theorem goalF_sum (said : List (List Int)) (k folk : Nat) (r : Int) : blk (goalF said k folk r) k 0 = 60 * (sumTo said k folk (2 ^ k) : Int) + 2 ^ k * r := by
  unfold blk
  have : ∀ n, n ≤ 2 ^ k → sumI (fun t => (goalF said k folk r).getD (0 * 2 ^ k + t) 0) n = 60 * (sumTo said k folk n : Int) + n * r := by
    intro n hn
    induction n with
    | zero => simp [sumI, sumTo, sumN]
    | succ n ih =>
      have e1 : sumTo said k folk (n + 1) = sumTo said k folk n + bestTo said k n folk := rfl
      simp only [sumI]
      rw [ih (by omega), Nat.zero_mul, Nat.zero_add, goalF_get (by omega), e1, Int.natCast_add, Int.natCast_add, Int.natCast_one, Int.add_mul, Int.one_mul, Int.mul_add]
      omega
  rw [this _ (Nat.le_refl _)]; simp
/-- The least goals that can be kept. -/
theorem goalF_can {said : List (List Int)} {k folk : Nat} (hb : Bits said k folk) (hk : 1 ≤ k) (hf : 1 ≤ folk) (r : Int) (hr : 60 * (regN k folk said : Int) = r * regD k folk said) : canB k (goalF said k folk r) = true := by
  refine near_can (goalF_near said k folk r) ?_
  rw [goalF_sum]
  have hle := sum_le hb hk hf
  have hc := rat_cross (k * 2 ^ (k - 1) - sumTo said k folk (2 ^ k)) (2 ^ k)
  have hy := ratD_pos (a := k * 2 ^ (k - 1) - sumTo said k folk (2 ^ k)) (Nat.pow_pos (by omega) : 0 < 2 ^ k)
  unfold regN regD at hr
  generalize ratN (k * 2 ^ (k - 1) - sumTo said k folk (2 ^ k)) (2 ^ k) = x at *
  generalize ratD (k * 2 ^ (k - 1) - sumTo said k folk (2 ^ k)) (2 ^ k) = y at *
  have e : (30 : Int) * k * 2 ^ k = 60 * ((k * 2 ^ (k - 1) : Nat) : Int) := by
    have : ((2 ^ k : Nat) : Int) = ((2 * 2 ^ (k - 1) : Nat) : Int) := by rw [pow_pred hk]
    have h2 : (2 : Int) ^ k = 2 * 2 ^ (k - 1) := by simpa using this
    rw [h2, Int.natCast_mul, Int.natCast_pow, show (60 : Int) = 30 * 2 from rfl]
    show 30 * (k : Int) * (2 * 2 ^ (k - 1)) = 30 * 2 * ((k : Int) * 2 ^ (k - 1))
    ac_rfl
  rw [e]
  generalize k * 2 ^ (k - 1) = T at *
  generalize sumTo said k folk (2 ^ k) = S at *
  have hc' : (x : Int) * 2 ^ k = ((T : Int) - S) * y := by
    have : ((x * 2 ^ k : Nat) : Int) = (((T - S) * y : Nat) : Int) := by rw [hc]
    rw [Int.natCast_mul, Int.natCast_mul, Int.ofNat_sub hle] at this
    simpa using this
  generalize (2 : Int) ^ k = q at *
  have h4 : (q * r) * y = (60 * ((T : Int) - S)) * y := by
    calc q * r * y = q * (r * y) := by ac_rfl
      _ = q * (60 * x) := by rw [← hr]
      _ = 60 * (x * q) := by ac_rfl
      _ = 60 * (((T : Int) - S) * y) := by rw [hc']
      _ = _ := by rw [Int.mul_assoc]
  have h5 : q * r = 60 * ((T : Int) - S) := Int.eq_of_mul_eq_mul_right (by omega) h4
  rw [h5]; omega
end Go.Proofs.Ytfaenbaaadjbbaa
