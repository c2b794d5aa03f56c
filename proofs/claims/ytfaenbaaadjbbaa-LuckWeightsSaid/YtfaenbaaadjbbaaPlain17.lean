/- Plain laws: numbers as digits to the base 10000. No condition. -/
import Derived.Test.YtfaenbaaadjbbaaPlain14
namespace Go.Proofs.Ytfaenbaaadjbbaa

def D10 : Nat := 10000
theorem D10_eq : D10 = 10000 := rfl
theorem D10_pos : 0 < D10 := by decide
def valTd (ds : List Nat) : Nat → Nat
  | 0 => 0
  | i + 1 => valTd ds i + ds.getD i 0 * D10 ^ i
def valT (ds : List Nat) : Nat := valTd ds ds.length
theorem valTd_ge {ds : List Nat} {i : Nat} (h : ds.length ≤ i) : valTd ds i = valT ds := by
  induction i with
  | zero =>
    have : ds.length = 0 := by omega
    unfold valT; rw [this]
  | succ i ih =>
    rcases Nat.lt_or_ge i ds.length with h1 | h1
    · have : ds.length = i + 1 := by omega
      unfold valT; rw [this]
    · simp only [valTd]
      rw [ih h1]
      simp [List.getD_eq_getElem?_getD, h1]
def SmallT (ds : List Nat) : Prop := ∀ j, ds.getD j 0 < D10
theorem valTd_lt {ds : List Nat} (h : SmallT ds) (i : Nat) : valTd ds i < D10 ^ i := by
  induction i with
  | zero => simp [valTd]
  | succ i ih =>
    have h1 := h i
    simp only [valTd]
    rw [Nat.pow_succ]
    have : (ds.getD i 0 + 1) * D10 ^ i ≤ D10 * D10 ^ i := Nat.mul_le_mul_right _ h1
    rw [Nat.add_mul, Nat.one_mul, Nat.mul_comm D10] at this
    omega
theorem valTd_mono (ds : List Nat) {i j : Nat} (h : i ≤ j) : valTd ds i ≤ valTd ds j := by
  induction j with
  | zero => obtain rfl : i = 0 := by omega
            exact Nat.le_refl _
  | succ j ih =>
    rcases Nat.lt_or_ge i (j + 1) with h1 | h1
    · have := ih (by omega)
      simp only [valTd]; omega
    · obtain rfl : i = j + 1 := by omega
      exact Nat.le_refl _
theorem valTd_congr {ds es : List Nat} {i : Nat} (h : ∀ j, j < i → ds.getD j 0 = es.getD j 0) : valTd ds i = valTd es i := by
  induction i with
  | zero => rfl
  | succ i ih => simp only [valTd]; rw [ih fun j hj => h j (by omega), h i (by omega)]
theorem valTd_zeros {ds : List Nat} {k i : Nat} (hk : k ≤ i) (h : ∀ j, k ≤ j → j < i → ds.getD j 0 = 0) : valTd ds i = valTd ds k := by
  induction i with
  | zero => obtain rfl : k = 0 := by omega
            rfl
  | succ i ih =>
    rcases Nat.lt_or_ge k (i + 1) with h1 | h1
    · simp only [valTd]
      rw [ih (by omega) fun j h2 h3 => h j h2 (by omega), h i (by omega) (by omega), Nat.zero_mul, Nat.add_zero]
    · obtain rfl : k = i + 1 := by omega
      rfl
theorem getN_setT (l : List Nat) (i j x : Nat) (h : i < l.length) : (l.set i x).getD j 0 = if j = i then x else l.getD j 0 := by
  by_cases hj : j = i
  · subst hj; simp [List.getD_eq_getElem?_getD, h]
  · rw [if_neg hj]; simp [List.getD_eq_getElem?_getD, List.getElem?_set_ne (fun e => hj e.symm)]
theorem valTd_set_low (ds : List Nat) (i x k : Nat) (hi : i < ds.length) (h : k ≤ i) : valTd (ds.set i x) k = valTd ds k :=
  valTd_congr fun j hj => by rw [getN_setT _ _ _ _ hi, if_neg (by omega)]
theorem valTd_set (ds : List Nat) (i x k : Nat) (hi : i < ds.length) (h : i < k) : valTd (ds.set i x) k + ds.getD i 0 * D10 ^ i = valTd ds k + x * D10 ^ i := by
  induction k with
  | zero => omega
  | succ k ih =>
    simp only [valTd]
    rcases Nat.lt_or_ge i k with h1 | h1
    · have := ih h1
      rw [getN_setT _ _ _ _ hi, if_neg (by omega : ¬ k = i)]; omega
    · obtain rfl : i = k := by omega
      rw [valTd_set_low ds i x i hi (Nat.le_refl _), getN_setT _ _ _ _ hi, if_pos rfl]; omega
theorem smallT_set {ds : List Nat} (h : SmallT ds) (i x : Nat) (hi : i < ds.length) (hx : x < D10) : SmallT (ds.set i x) := fun j => by
  rw [getN_setT _ _ _ _ hi]; split
  · exact hx
  · exact h j
theorem smallT_zeros (n : Nat) : SmallT (List.replicate n 0) := fun j => by
  have : (List.replicate n 0).getD j 0 = 0 := by simp [List.getD_eq_getElem?_getD, List.getElem?_replicate]; split <;> rfl
  rw [this]; exact D10_pos
theorem zerosT_get (n j : Nat) : (List.replicate n 0).getD j 0 = 0 := by
  simp [List.getD_eq_getElem?_getD, List.getElem?_replicate]; split <;> rfl
/-- No zero at the end. -/
def NormT (ds : List Nat) : Prop := ds.length = 0 ∨ ds.getD (ds.length - 1) 0 ≠ 0
theorem normT_low {ds : List Nat} (h : NormT ds) (hp : 0 < ds.length) : D10 ^ (ds.length - 1) ≤ valT ds := by
  rcases h with h | h
  · omega
  · obtain ⟨n, hn⟩ : ∃ n, ds.length = n + 1 := ⟨ds.length - 1, by omega⟩
    have e : ds.length - 1 = n := by omega
    rw [e] at h ⊢
    unfold valT
    rw [hn]
    simp only [valTd]
    have : 1 * D10 ^ n ≤ ds.getD n 0 * D10 ^ n := Nat.mul_le_mul_right _ (by omega)
    omega
theorem valT_lt {ds : List Nat} (h : SmallT ds) : valT ds < D10 ^ ds.length := valTd_lt h _
theorem valT_zero {ds : List Nat} (h : NormT ds) : valT ds = 0 ↔ ds.length = 0 := by
  constructor
  · intro h0
    rcases Nat.eq_zero_or_pos ds.length with h1 | h1
    · exact h1
    · have := normT_low h h1
      have := Nat.pow_pos (n := ds.length - 1) D10_pos
      omega
  · intro h0; unfold valT; rw [h0]; rfl
/-- A number below a power has few digits. -/
theorem normT_len {ds : List Nat} (h : NormT ds) (k : Nat) (hv : valT ds < D10 ^ k) : ds.length ≤ k := by
  rcases Nat.lt_or_ge k ds.length with h1 | h1
  · have := normT_low h (by omega)
    have h2 : D10 ^ k ≤ D10 ^ (ds.length - 1) := Nat.pow_le_pow_right D10_pos (by omega)
    omega
  · exact h1
/-- Fewer digits are less. -/
theorem shorterT_lt {a b : List Nat} (ha : SmallT a) (hb : NormT b) (h : a.length < b.length) : valT a < valT b := by
  have h1 := valT_lt ha
  have h2 := normT_low hb (by omega)
  have h3 : D10 ^ a.length ≤ D10 ^ (b.length - 1) := Nat.pow_le_pow_right D10_pos (by omega)
  omega
/-- The highest digit that differs decides. -/
theorem digitT_lt {a b : List Nat} (ha : SmallT a) {i n : Nat} (hi : i < n) (hs : ∀ j, i < j → j < n → a.getD j 0 = b.getD j 0) (hlt : a.getD i 0 < b.getD i 0) : valTd a n < valTd b n := by
  induction n with
  | zero => omega
  | succ n ih =>
    simp only [valTd]
    rcases Nat.lt_or_ge i n with h1 | h1
    · have := ih h1 fun j h2 h3 => hs j h2 (by omega)
      rw [hs n h1 (by omega)]; omega
    · obtain rfl : i = n := by omega
      have h1 := valTd_lt ha i
      have : (a.getD i 0 + 1) * D10 ^ i ≤ b.getD i 0 * D10 ^ i := Nat.mul_le_mul_right _ hlt
      rw [Nat.add_mul, Nat.one_mul] at this
      omega
theorem valTd_take (ds : List Nat) (k i : Nat) (h : i ≤ k) : valTd (ds.take k) i = valTd ds i :=
  valTd_congr fun j hj => by simp [List.getD_eq_getElem?_getD, List.getElem?_take_of_lt (by omega : j < k)]
/-- Zeros at the end are cut off. -/
theorem trimT_val {ds : List Nat} {k : Nat} (hk : k ≤ ds.length) (hz : ∀ j, k ≤ j → j < ds.length → ds.getD j 0 = 0) : valT (ds.take k) = valT ds := by
  unfold valT
  rw [List.length_take, Nat.min_eq_left hk, valTd_take ds k k (Nat.le_refl _), valTd_zeros hk hz]
theorem trimT_norm {ds : List Nat} {k : Nat} (hk : k ≤ ds.length) (h : k = 0 ∨ ds.getD (k - 1) 0 ≠ 0) : NormT (ds.take k) := by
  unfold NormT
  rw [List.length_take, Nat.min_eq_left hk]
  rcases h with h | h
  · exact .inl h
  · by_cases h0 : k = 0
    · exact .inl h0
    · right
      simpa [List.getD_eq_getElem?_getD, List.getElem?_take_of_lt (by omega : k - 1 < k)] using h
theorem smallT_take {ds : List Nat} (h : SmallT ds) (k : Nat) : SmallT (ds.take k) := fun j => by
  by_cases hj : j < k
  · have := h j
    simpa [List.getD_eq_getElem?_getD, List.getElem?_take_of_lt hj] using this
  · have : (ds.take k).getD j 0 = 0 := by
      rw [List.getD_eq_getElem?_getD, List.getElem?_eq_none (by rw [List.length_take]; omega)]; rfl
    rw [this]; exact D10_pos
/-- One digit of a row of a product. -/
theorem mulT_step {O : List Nat} {L V i k a b c B : Nat} (hj : i + k < O.length) (hL : i + k < L) (h : valTd O L + c * D10 ^ (i + k) = V + a * B * D10 ^ i) :
    valTd (O.set (i + k) ((c + (a * b + O.getD (i + k) 0)) % D10)) L + (c + (a * b + O.getD (i + k) 0)) / D10 * D10 ^ (i + (k + 1)) = V + a * (B + b * D10 ^ k) * D10 ^ i := by
  have h1 := valTd_set O (i + k) ((c + (a * b + O.getD (i + k) 0)) % D10) L hj hL
  have e := Nat.div_add_mod (c + (a * b + O.getD (i + k) 0)) D10
  generalize O.getD (i + k) 0 = o at *
  have e5 : D10 ^ (i + (k + 1)) = D10 * D10 ^ (i + k) := by rw [← Nat.add_assoc, Nat.pow_succ, Nat.mul_comm]
  rw [e5]
  generalize (c + (a * b + o)) % D10 = r at *
  generalize (c + (a * b + o)) / D10 = q at *
  have h2 : (D10 * q + r) * D10 ^ (i + k) = (c + (a * b + o)) * D10 ^ (i + k) := by rw [e]
  rw [Nat.add_mul, Nat.add_mul, Nat.add_mul] at h2
  have e6 : q * (D10 * D10 ^ (i + k)) = D10 * q * D10 ^ (i + k) := by ac_rfl
  have e7 : a * (B + b * D10 ^ k) * D10 ^ i = a * B * D10 ^ i + a * b * D10 ^ (i + k) := by
    rw [Nat.mul_add, Nat.add_mul, Nat.pow_add]
    congr 1; ac_rfl
  rw [e6, e7]
  omega
theorem mul_lt_T {a b : Nat} (ha : a < D10) (hb : b < D10) : a * b + D10 + D10 ≤ D10 * D10 + 1 := by
  have : a * b ≤ (D10 - 1) * (D10 - 1) := Nat.mul_le_mul (by omega) (by omega)
  have e : (D10 - 1) * (D10 - 1) + D10 + D10 = D10 * D10 + 1 := by decide
  omega
/-- The digits as the program has them. -/
def nn (ds : List Nat) : List Int := ds.map fun d : Nat => (d : Int)
theorem nn_len (ds : List Nat) : (nn ds).length = ds.length := by simp [nn]
theorem nn_get (ds : List Nat) (j : Nat) : (nn ds).getD j 0 = (ds.getD j 0 : Int) := by
  by_cases h : j < ds.length <;> simp [nn, List.getD_eq_getElem?_getD, h]
theorem nn_set (ds : List Nat) (j x : Nat) : (nn ds).set j (x : Int) = nn (ds.set j x) := by simp [nn, List.map_set]
theorem nn_snoc (ds : List Nat) (x : Nat) : nn ds ++ [(x : Int)] = nn (ds ++ [x]) := by simp [nn]
theorem nn_zeros (n : Nat) : List.replicate n (0 : Int) = nn (List.replicate n 0) := by simp [nn]
theorem val_snoc (ds : List Nat) (x : Nat) : valT (ds ++ [x]) = valT ds + x * D10 ^ ds.length := by
  unfold valT
  rw [List.length_append, List.length_singleton]
  simp only [valTd]
  rw [valTd_congr (ds := ds ++ [x]) (es := ds) fun j hj => by simp [List.getD_eq_getElem?_getD, List.getElem?_append_left hj]]
  simp [List.getD_eq_getElem?_getD]
theorem smallT_snoc {ds : List Nat} (h : SmallT ds) {x : Nat} (hx : x < D10) : SmallT (ds ++ [x]) := fun j => by
  rcases Nat.lt_or_ge j ds.length with h1 | h1
  · have := h j
    simpa [List.getD_eq_getElem?_getD, List.getElem?_append_left h1] using this
  · by_cases h2 : j = ds.length
    · subst h2; simpa [List.getD_eq_getElem?_getD] using hx
    · have : (ds ++ [x]).getD j 0 = 0 := by rw [List.getD_eq_getElem?_getD, List.getElem?_eq_none (by simp; omega)]; rfl
      rw [this]; exact D10_pos
theorem two_le_T (n e : Nat) (h : n ≤ e) (he : e = 13 * 100) : 2 ^ n ≤ D10 ^ 100 := by
  have h1 : 2 ^ n ≤ 2 ^ e := Nat.pow_le_pow_right (by omega) h
  have h2 : (2 ^ 13) ^ 100 ≤ D10 ^ 100 := Nat.pow_le_pow_left (by decide) 100
  rw [← Nat.pow_mul, ← he] at h2
  exact Nat.le_trans h1 h2
end Go.Proofs.Ytfaenbaaadjbbaa
