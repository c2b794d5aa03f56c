/- Walks: bits.Mul64, times. -/
import Derived.Test.YtfaenbaaadjbbaaW13
import Derived.Test.YtfaenbaaadjbbaaPlain8
namespace Go.Proofs.Ytfaenbaaadjbbaa
open Go.RowKit

theorem split32 (n : Nat) : n = n / W32 * W32 + n % W32 := by have := Nat.div_add_mod n W32; rw [Nat.mul_comm] at this; omega
set_option maxRecDepth 100000 in
set_option maxHeartbeats 2000000 in
/-- math/bits.Mul64 -/
theorem f87_any (x y : Nat) (w : World) (hx : x < W32 * W32) (hy : y < W32 * W32) :
    Calls Try.prog 87 #[.int .u64 (x : Int), .int .u64 (y : Int)] w fun e w' => e = .returned (.tuple #[.int .u64 ((x * y / (W32 * W32) : Nat) : Int), .int .u64 ((x * y % (W32 * W32) : Nat) : Int)]) ∧ w = w' := by
  have hx64 : x < 18446744073709551616 := hx
  have hy64 : y < 18446744073709551616 := hy
  have a1 := and_u64 x hx64
  have a2 := and_u64 y hy64
  have d1 := hi32 x
  have d2 := hi32 y
  have sx := Lib.hid (split32 x)
  have sy := Lib.hid (split32 y)
  have l1 : x % W32 < W32 := Nat.mod_lt _ W32_pos
  have l2 : y % W32 < W32 := Nat.mod_lt _ W32_pos
  have l3 : x / W32 < W32 := Nat.div_lt_of_lt_mul hx
  have l4 : y / W32 < W32 := Nat.div_lt_of_lt_mul hy
  have hL0 : IntKind.u64.wrap ((x : Int) * (y : Int)) = ((x * y % (W32 * W32) : Nat) : Int) := by
    rw [IntKind.wrap_u64, ← Int.natCast_mul]
    have : W32 * W32 = 18446744073709551616 := rfl
    rw [this]; omega
  have HH : Hid (∀ H L, L < W32 * W32 → x * y = H * (W32 * W32) + L → x * y / (W32 * W32) = H ∧ x * y % (W32 * W32) = L) := fun H L h1 h2 => by rw [h2]; exact div_lo h1
  generalize x % W32 = x0 at *
  generalize y % W32 = y0 at *
  generalize x / W32 = x1 at *
  generalize y / W32 = y1 at *
  have m00 := mul_lt_W l1 l2
  have m10 := mul_lt_W l3 l2
  have m01 := mul_lt_W l1 l4
  have m11 := mul_lt_W l3 l4
  obtain ⟨P, hP⟩ : ∃ P, P = x0 * y0 := ⟨_, rfl⟩
  obtain ⟨Q, hQ⟩ : ∃ Q, Q = x1 * y0 := ⟨_, rfl⟩
  obtain ⟨S, hS⟩ : ∃ S, S = x0 * y1 := ⟨_, rfl⟩
  obtain ⟨U, hU⟩ : ∃ U, U = x1 * y1 := ⟨_, rfl⟩
  rw [← hP] at m00
  rw [← hQ] at m10
  rw [← hS] at m01
  rw [← hU] at m11
  have p00 : (x0 : Int) * (y0 : Int) = (P : Int) := by rw [hP, Int.natCast_mul]
  have p10 : (x1 : Int) * (y0 : Int) = (Q : Int) := by rw [hQ, Int.natCast_mul]
  have p01 : (x0 : Int) * (y1 : Int) = (S : Int) := by rw [hS, Int.natCast_mul]
  have p11 : (x1 : Int) * (y1 : Int) = (U : Int) := by rw [hU, Int.natCast_mul]
  have HP := Lib.hid hP
  have HQ := Lib.hid hQ
  have HS := Lib.hid hS
  have HU := Lib.hid hU
  clear hP hQ hS hU
  have w32 : W32 = 4294967296 := rfl
  rw [w32] at m00 m10 m01 m11 l1 l2 l3 l4
  have sP := Lib.hid (split32 P)
  have d3 := hi32 P
  have k1 : P / W32 < 4294967296 := Nat.div_lt_of_lt_mul (by rw [w32]; omega)
  have k2 : P % W32 < 4294967296 := Nat.mod_lt _ W32_pos
  generalize P / W32 = p1 at *
  generalize P % W32 = p0 at *
  obtain ⟨T, hT⟩ : ∃ T, T = Q + p1 := ⟨_, rfl⟩
  have eT : (Q : Int) + (p1 : Int) = (T : Int) := by omega
  have HT := Lib.hid hT
  have hTb : T < 18446744073709551616 := by omega
  clear hT
  have a3 := and_u64 T hTb
  have d4 := hi32 T
  have sT := Lib.hid (split32 T)
  have k3 : T / W32 < 4294967296 := Nat.div_lt_of_lt_mul (by rw [w32]; omega)
  have k4 : T % W32 < 4294967296 := Nat.mod_lt _ W32_pos
  generalize T / W32 = t1 at *
  generalize T % W32 = t0 at *
  obtain ⟨R, hR⟩ : ∃ R, R = t0 + S := ⟨_, rfl⟩
  have eR : (t0 : Int) + (S : Int) = (R : Int) := by omega
  have HR := Lib.hid hR
  have hRb : R < 18446744073709551616 := by omega
  clear hR
  have d5 := hi32 R
  have sR := Lib.hid (split32 R)
  have k5 : R / W32 < 4294967296 := Nat.div_lt_of_lt_mul (by rw [w32]; omega)
  have k6 : R % W32 < 4294967296 := Nat.mod_lt _ W32_pos
  generalize R / W32 = r1 at *
  generalize R % W32 = r0 at *
  have hlaw := HH.out (U + t1 + r1) (r0 * W32 + p0) (by rw [w32]; omega) (mul64_law sx.out sy.out HP.out sP.out (by rw [HT.out, HQ.out]) sT.out (by rw [HR.out, HS.out]) sR.out (by rw [HU.out]))
  have hHb : U + t1 + r1 < 18446744073709551616 := by
    have := HH.out (U + t1 + r1) (r0 * W32 + p0) (by rw [w32]; omega) (mul64_law sx.out sy.out HP.out sP.out (by rw [HT.out, HQ.out]) sT.out (by rw [HR.out, HS.out]) sR.out (by rw [HU.out]))
    have h2 : x * y / (W32 * W32) < 18446744073709551616 := by
      apply Nat.div_lt_of_lt_mul
      exact Nat.mul_lt_mul'' hx hy
    omega
  obtain ⟨hh, hl⟩ := hlaw
  have HHH := Lib.hid hh
  clear hl hh HH
  rw [HHH.out]
  generalize x * y % (W32 * W32) = L at *
  obtain ⟨M, hM⟩ : ∃ M, M = U + t1 := ⟨_, rfl⟩
  have eM : (U : Int) + (t1 : Int) = (M : Int) := by omega
  obtain ⟨H, hHd⟩ : ∃ H, H = M + r1 := ⟨_, rfl⟩
  have eH : (M : Int) + (r1 : Int) = (H : Int) := by omega
  rw [← hM] at hHb ⊢
  rw [← hHd] at hHb ⊢
  have hM2 : M < 18446744073709551616 := by omega
  clear hM hHd w32 hx hy
  go_enter Try.func87, Try.ntmps87
  go_wp2
  go_ret2
  exact ⟨rfl, rfl⟩
end Go.Proofs.Ytfaenbaaadjbbaa
