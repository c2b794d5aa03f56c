/- Plain laws: the cyclic beds of at most seven crops, each looked at. No condition. -/
import Derived.Test.YtiodednhadnekaaDoorW61
namespace Go.Proofs.YtiodednhadnekaaDoor

def dist (s t : Nat) : Nat := max s t - min s t
/-- Two cyclic beds: mates exactly if their difference and the size have no common divisor. -/
def cycMate (n s t : Nat) : Bool := !(Nat.gcd s n == 1) || !(Nat.gcd t n == 1) || (decide (matesE (cycL n s) (cycL n t) = 0) && (matesB (cycL n s) (cycL n t) == decide (Nat.gcd n (dist s t) = 1)) && !(matesB (cycL n s) (cycL n t) && n == 2))
def cycMates (n : Nat) : Bool := (List.range (n + 1)).all fun s => (List.range (n + 1)).all fun t => s == 0 || t == 0 || cycMate n s t
set_option maxRecDepth 100000 in
theorem cyc_mates : ∀ n, n < 8 → cycMates n = true := by decide +kernel
/-- The transversals of the cyclic bed of step 1. -/
def cycTr (n : Nat) : Bool := decide (trE (cycL n 1) = 0) && (if n % 2 = 1 then decide (0 < trN (cycL n 1)) && decide (trN (cycL n 1) % n = 0) && decide (trN (cycL n 1) < 1000000) && decide (tvE (cycL n 1) = 0) && decide ((tvL (cycL n 1)).length = n) else decide (trN (cycL n 1) = 0) && decide (tvE (cycL n 1) = 10) && decide ((tvL (cycL n 1)).length = 0))
set_option maxRecDepth 100000 in
theorem cyc_tr6 : ∀ n, n < 7 → (n == 0 || cycTr n) = true := by decide +kernel
set_option maxRecDepth 100000 in
theorem cyc_tr7 : cycTr 7 = true := by decide +kernel
theorem cyc_mate {n s t : Nat} (hn : n ≤ 7) (s1 : 1 ≤ s) (sn : s ≤ n) (t1 : 1 ≤ t) (tn : t ≤ n) (hs : Nat.gcd s n = 1) (ht : Nat.gcd t n = 1) : matesE (cycL n s) (cycL n t) = 0 ∧ matesB (cycL n s) (cycL n t) = decide (Nat.gcd n (dist s t) = 1) ∧ (matesB (cycL n s) (cycL n t) = true → n ≠ 2) := by
  have h := cyc_mates n (by omega)
  unfold cycMates at h
  rw [List.all_eq_true] at h
  have h1 := h s (List.mem_range.2 (by omega))
  rw [List.all_eq_true] at h1
  have h2 := h1 t (List.mem_range.2 (by omega))
  rw [show (s == 0) = false by simp; omega, show (t == 0) = false by simp; omega, Bool.false_or, Bool.false_or] at h2
  unfold cycMate at h2
  rw [hs, ht] at h2
  simp only [beq_self_eq_true, Bool.not_true, Bool.false_or, Bool.and_eq_true, decide_eq_true_eq, beq_iff_eq, Bool.not_eq_true', Bool.and_eq_false_iff, beq_eq_false_iff_ne] at h2
  refine ⟨h2.1.1, h2.1.2, fun h3 => ?_⟩
  rcases h2.2 with h4 | h4
  · rw [h3] at h4; cases h4
  · exact h4
theorem cyc_tr {n : Nat} (h1 : 1 ≤ n) (hn : n ≤ 7) : cycTr n = true := by
  rcases Nat.lt_or_ge n 7 with h | h
  · have := cyc_tr6 n h
    rw [show (n == 0) = false by simp; omega, Bool.false_or] at this
    exact this
  · obtain rfl : n = 7 := by omega
    exact cyc_tr7
end Go.Proofs.YtiodednhadnekaaDoor
