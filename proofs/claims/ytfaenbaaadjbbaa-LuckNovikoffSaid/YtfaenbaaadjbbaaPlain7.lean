/- Plain laws: numbers as digits to the base 2^32. No condition. -/
import Derived.Test.YtfaenbaaadjbbaaPlain6
namespace Go.Proofs.Ytfaenbaaadjbbaa

def W32 : Nat := 4294967296
theorem W32_eq : W32 = 4294967296 := rfl
theorem W32_pos : 0 < W32 := by decide
def valTo (ds : List Nat) : Nat → Nat
  | 0 => 0
  | i + 1 => valTo ds i + ds.getD i 0 * W32 ^ i
def valW (ds : List Nat) : Nat := valTo ds ds.length
theorem valTo_ge {ds : List Nat} {i : Nat} (h : ds.length ≤ i) : valTo ds i = valW ds := by
  induction i with
  | zero =>
    have : ds.length = 0 := by omega
    unfold valW; rw [this]
  | succ i ih =>
    rcases Nat.lt_or_ge i ds.length with h1 | h1
    · have : ds.length = i + 1 := by omega
      unfold valW; rw [this]
    · simp only [valTo]
      rw [ih h1]
      simp [List.getD_eq_getElem?_getD, h1]
def Small (ds : List Nat) : Prop := ∀ j, ds.getD j 0 < W32
theorem valTo_lt {ds : List Nat} (h : Small ds) (i : Nat) : valTo ds i < W32 ^ i := by
  induction i with
  | zero => simp [valTo]
  | succ i ih =>
    have h1 := h i
    simp only [valTo]
    rw [Nat.pow_succ]
    have : (ds.getD i 0 + 1) * W32 ^ i ≤ W32 * W32 ^ i := Nat.mul_le_mul_right _ h1
    rw [Nat.add_mul, Nat.one_mul, Nat.mul_comm W32] at this
    omega
theorem valTo_mono (ds : List Nat) {i j : Nat} (h : i ≤ j) : valTo ds i ≤ valTo ds j := by
  induction j with
  | zero => obtain rfl : i = 0 := by omega
            exact Nat.le_refl _
  | succ j ih =>
    rcases Nat.lt_or_ge i (j + 1) with h1 | h1
    · have := ih (by omega)
      simp only [valTo]; omega
    · obtain rfl : i = j + 1 := by omega
      exact Nat.le_refl _
theorem valTo_congr {ds es : List Nat} {i : Nat} (h : ∀ j, j < i → ds.getD j 0 = es.getD j 0) : valTo ds i = valTo es i := by
  induction i with
  | zero => rfl
  | succ i ih => simp only [valTo]; rw [ih fun j hj => h j (by omega), h i (by omega)]
theorem valTo_zeros {ds : List Nat} {k i : Nat} (hk : k ≤ i) (h : ∀ j, k ≤ j → j < i → ds.getD j 0 = 0) : valTo ds i = valTo ds k := by
  induction i with
  | zero => obtain rfl : k = 0 := by omega
            rfl
  | succ i ih =>
    rcases Nat.lt_or_ge k (i + 1) with h1 | h1
    · simp only [valTo]
      rw [ih (by omega) fun j h2 h3 => h j h2 (by omega), h i (by omega) (by omega), Nat.zero_mul, Nat.add_zero]
    · obtain rfl : k = i + 1 := by omega
      rfl
theorem getD_set (l : List Nat) (i j x : Nat) (h : i < l.length) : (l.set i x).getD j 0 = if j = i then x else l.getD j 0 := by
  by_cases hj : j = i
  · subst hj; simp [List.getD_eq_getElem?_getD, h]
  · rw [if_neg hj]; simp [List.getD_eq_getElem?_getD, List.getElem?_set_ne (fun e => hj e.symm)]
theorem valTo_set_low (ds : List Nat) (i x k : Nat) (hi : i < ds.length) (h : k ≤ i) : valTo (ds.set i x) k = valTo ds k :=
  valTo_congr fun j hj => by rw [getD_set _ _ _ _ hi, if_neg (by omega)]
theorem valTo_set (ds : List Nat) (i x k : Nat) (hi : i < ds.length) (h : i < k) : valTo (ds.set i x) k + ds.getD i 0 * W32 ^ i = valTo ds k + x * W32 ^ i := by
  induction k with
  | zero => omega
  | succ k ih =>
    simp only [valTo]
    rcases Nat.lt_or_ge i k with h1 | h1
    · have := ih h1
      rw [getD_set _ _ _ _ hi, if_neg (by omega : ¬ k = i)]; omega
    · obtain rfl : i = k := by omega
      rw [valTo_set_low ds i x i hi (Nat.le_refl _), getD_set _ _ _ _ hi, if_pos rfl]; omega
theorem small_set {ds : List Nat} (h : Small ds) (i x : Nat) (hi : i < ds.length) (hx : x < W32) : Small (ds.set i x) := fun j => by
  rw [getD_set _ _ _ _ hi]; split
  · exact hx
  · exact h j
theorem small_zeros (n : Nat) : Small (List.replicate n 0) := fun j => by
  have : (List.replicate n 0).getD j 0 = 0 := by simp [List.getD_eq_getElem?_getD, List.getElem?_replicate]; split <;> rfl
  rw [this]; exact W32_pos
theorem zeros_get (n j : Nat) : (List.replicate n 0).getD j 0 = 0 := by
  simp [List.getD_eq_getElem?_getD, List.getElem?_replicate]; split <;> rfl
/-- No zero at the end. -/
def Norm (ds : List Nat) : Prop := ds.length = 0 ∨ ds.getD (ds.length - 1) 0 ≠ 0
theorem norm_low {ds : List Nat} (h : Norm ds) (hp : 0 < ds.length) : W32 ^ (ds.length - 1) ≤ valW ds := by
  rcases h with h | h
  · omega
  · obtain ⟨n, hn⟩ : ∃ n, ds.length = n + 1 := ⟨ds.length - 1, by omega⟩
    have e : ds.length - 1 = n := by omega
    rw [e] at h ⊢
    unfold valW
    rw [hn]
    simp only [valTo]
    have : 1 * W32 ^ n ≤ ds.getD n 0 * W32 ^ n := Nat.mul_le_mul_right _ (by omega)
    omega
theorem valW_lt {ds : List Nat} (h : Small ds) : valW ds < W32 ^ ds.length := valTo_lt h _
theorem valW_zero {ds : List Nat} (h : Norm ds) : valW ds = 0 ↔ ds.length = 0 := by
  constructor
  · intro h0
    rcases Nat.eq_zero_or_pos ds.length with h1 | h1
    · exact h1
    · have := norm_low h h1
      have := Nat.pow_pos (n := ds.length - 1) W32_pos
      omega
  · intro h0; unfold valW; rw [h0]; rfl
/-- A number below a power has few digits. -/
theorem norm_len {ds : List Nat} (h : Norm ds) (k : Nat) (hv : valW ds < W32 ^ k) : ds.length ≤ k := by
  rcases Nat.lt_or_ge k ds.length with h1 | h1
  · have := norm_low h (by omega)
    have h2 : W32 ^ k ≤ W32 ^ (ds.length - 1) := Nat.pow_le_pow_right W32_pos (by omega)
    omega
  · exact h1
/-- Fewer digits are less. -/
theorem shorter_lt {a b : List Nat} (ha : Small a) (hb : Norm b) (h : a.length < b.length) : valW a < valW b := by
  have h1 := valW_lt ha
  have h2 := norm_low hb (by omega)
  have h3 : W32 ^ a.length ≤ W32 ^ (b.length - 1) := Nat.pow_le_pow_right W32_pos (by omega)
  omega
/-- The highest digit that differs decides. -/
theorem digit_lt {a b : List Nat} (ha : Small a) {i n : Nat} (hi : i < n) (hs : ∀ j, i < j → j < n → a.getD j 0 = b.getD j 0) (hlt : a.getD i 0 < b.getD i 0) : valTo a n < valTo b n := by
  induction n with
  | zero => omega
  | succ n ih =>
    simp only [valTo]
    rcases Nat.lt_or_ge i n with h1 | h1
    · have := ih h1 fun j h2 h3 => hs j h2 (by omega)
      rw [hs n h1 (by omega)]; omega
    · obtain rfl : i = n := by omega
      have h1 := valTo_lt ha i
      have : (a.getD i 0 + 1) * W32 ^ i ≤ b.getD i 0 * W32 ^ i := Nat.mul_le_mul_right _ hlt
      rw [Nat.add_mul, Nat.one_mul] at this
      omega
theorem valTo_take (ds : List Nat) (k i : Nat) (h : i ≤ k) : valTo (ds.take k) i = valTo ds i :=
  valTo_congr fun j hj => by simp [List.getD_eq_getElem?_getD, List.getElem?_take_of_lt (by omega : j < k)]
/-- Zeros at the end are cut off. -/
theorem trim_val {ds : List Nat} {k : Nat} (hk : k ≤ ds.length) (hz : ∀ j, k ≤ j → j < ds.length → ds.getD j 0 = 0) : valW (ds.take k) = valW ds := by
  unfold valW
  rw [List.length_take, Nat.min_eq_left hk, valTo_take ds k k (Nat.le_refl _), valTo_zeros hk hz]
theorem trim_norm {ds : List Nat} {k : Nat} (hk : k ≤ ds.length) (h : k = 0 ∨ ds.getD (k - 1) 0 ≠ 0) : Norm (ds.take k) := by
  unfold Norm
  rw [List.length_take, Nat.min_eq_left hk]
  rcases h with h | h
  · exact .inl h
  · by_cases h0 : k = 0
    · exact .inl h0
    · right
      simpa [List.getD_eq_getElem?_getD, List.getElem?_take_of_lt (by omega : k - 1 < k)] using h
theorem small_take {ds : List Nat} (h : Small ds) (k : Nat) : Small (ds.take k) := fun j => by
  by_cases hj : j < k
  · have := h j
    simpa [List.getD_eq_getElem?_getD, List.getElem?_take_of_lt hj] using this
  · have : (ds.take k).getD j 0 = 0 := by
      rw [List.getD_eq_getElem?_getD, List.getElem?_eq_none (by rw [List.length_take]; omega)]; rfl
    rw [this]; exact W32_pos
/-- One digit of a sum. -/
theorem plus_step {P a b c x y z : Nat} (h : z + c * P = a + b) : z + (c + x + y) % W32 * P + (c + x + y) / W32 * (P * W32) = a + x * P + (b + y * P) := by
  have e := Nat.div_add_mod (c + x + y) W32
  generalize (c + x + y) % W32 = r at *
  generalize (c + x + y) / W32 = q at *
  have : (W32 * q + r) * P = (c + x + y) * P := by rw [e]
  rw [Nat.add_mul, Nat.add_mul, Nat.add_mul] at this
  have e2 : q * (P * W32) = W32 * q * P := by ac_rfl
  rw [e2]; omega
end Go.Proofs.Ytfaenbaaadjbbaa
