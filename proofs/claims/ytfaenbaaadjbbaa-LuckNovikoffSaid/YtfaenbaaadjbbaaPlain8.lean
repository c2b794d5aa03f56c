/- Plain laws: products of digits. No condition. -/
import Derived.Test.YtfaenbaaadjbbaaPlain7
namespace Go.Proofs.Ytfaenbaaadjbbaa

/-- The product of two numbers of two digits. -/
theorem mul64_law {x y x0 x1 y0 y1 P p0 p1 T t0 t1 R r0 r1 H : Nat} (hx : x = x1 * W32 + x0) (hy : y = y1 * W32 + y0) (hP : P = x0 * y0) (hp : P = p1 * W32 + p0) (hT : T = x1 * y0 + p1) (ht : T = t1 * W32 + t0)
    (hR : R = t0 + x0 * y1) (hr : R = r1 * W32 + r0) (hH : H = x1 * y1 + t1 + r1) : x * y = H * (W32 * W32) + (r0 * W32 + p0) := by
  have e1 : x * y = x1 * y1 * (W32 * W32) + (x1 * y0 + x0 * y1) * W32 + x0 * y0 := by
    rw [hx, hy, Nat.add_mul, Nat.mul_add, Nat.mul_add, Nat.add_mul]
    have a1 : x1 * W32 * (y1 * W32) = x1 * y1 * (W32 * W32) := by ac_rfl
    have a2 : x1 * W32 * y0 = x1 * y0 * W32 := by ac_rfl
    have a3 : x0 * (y1 * W32) = x0 * y1 * W32 := by ac_rfl
    rw [a1, a2, a3]; omega
  rw [e1, ← hP, hp, hH]
  have e2 : (x1 * y0 + x0 * y1) * W32 + p1 * W32 = T * W32 + x0 * y1 * W32 := by rw [hT]; simp only [Nat.add_mul]; omega
  have e3 : T * W32 = t1 * (W32 * W32) + t0 * W32 := by rw [ht, Nat.add_mul, Nat.mul_assoc]
  have e4 : t0 * W32 + x0 * y1 * W32 = r1 * (W32 * W32) + r0 * W32 := by rw [← Nat.add_mul, ← hR, hr, Nat.add_mul, Nat.mul_assoc]
  rw [Nat.add_mul (x1 * y1 + t1), Nat.add_mul (x1 * y1)]
  omega
theorem div_lo {H L M : Nat} (h : L < M) : (H * M + L) / M = H ∧ (H * M + L) % M = L := by
  have hM : 0 < M := by omega
  constructor
  · rw [Nat.add_comm, Nat.add_mul_div_right _ _ hM, Nat.div_eq_of_lt h, Nat.zero_add]
  · rw [Nat.add_comm, Nat.add_mul_mod_self_right, Nat.mod_eq_of_lt h]
theorem mul_lt_W {a b : Nat} (ha : a < W32) (hb : b < W32) : a * b + W32 + W32 ≤ W32 * W32 + 1 := by
  have : a * b ≤ (W32 - 1) * (W32 - 1) := Nat.mul_le_mul (by omega) (by omega)
  have e : (W32 - 1) * (W32 - 1) + W32 + W32 = W32 * W32 + 1 := by decide
  omega
theorem val4 (a b c d : Nat) : valW [a, b, c, d] = a + b * W32 + c * W32 ^ 2 + d * W32 ^ 3 := by
  have : valW [a, b, c, d] = 0 + a * W32 ^ 0 + b * W32 ^ 1 + c * W32 ^ 2 + d * W32 ^ 3 := rfl
  rw [this, Nat.pow_zero, Nat.pow_one]; omega
/-- One digit of a row of a product. -/
theorem mul_step {O : List Nat} {L V i k a b c B : Nat} (hj : i + k < O.length) (hL : i + k < L) (h : valTo O L + c * W32 ^ (i + k) = V + a * B * W32 ^ i) :
    valTo (O.set (i + k) ((c + (a * b + O.getD (i + k) 0)) % W32)) L + (c + (a * b + O.getD (i + k) 0)) / W32 * W32 ^ (i + (k + 1)) = V + a * (B + b * W32 ^ k) * W32 ^ i := by
  have h1 := valTo_set O (i + k) ((c + (a * b + O.getD (i + k) 0)) % W32) L hj hL
  have e := Nat.div_add_mod (c + (a * b + O.getD (i + k) 0)) W32
  generalize O.getD (i + k) 0 = o at *
  have e5 : W32 ^ (i + (k + 1)) = W32 * W32 ^ (i + k) := by rw [← Nat.add_assoc, Nat.pow_succ, Nat.mul_comm]
  rw [e5]
  generalize (c + (a * b + o)) % W32 = r at *
  generalize (c + (a * b + o)) / W32 = q at *
  have h2 : (W32 * q + r) * W32 ^ (i + k) = (c + (a * b + o)) * W32 ^ (i + k) := by rw [e]
  rw [Nat.add_mul, Nat.add_mul, Nat.add_mul] at h2
  have e6 : q * (W32 * W32 ^ (i + k)) = W32 * q * W32 ^ (i + k) := by ac_rfl
  have e7 : a * (B + b * W32 ^ k) * W32 ^ i = a * B * W32 ^ i + a * b * W32 ^ (i + k) := by
    rw [Nat.mul_add, Nat.add_mul, Nat.pow_add]
    congr 1; ac_rfl
  rw [e6, e7]
  omega
end Go.Proofs.Ytfaenbaaadjbbaa
