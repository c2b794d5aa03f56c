/- Plain laws: the goals of foretellers, none above 60 k. No condition. -/
import Derived.Test.YtfaenbaaadjbbaaPlain6
namespace Go.Proofs.Ytfaenbaaadjbbaa

def capG (said : List (List Int)) (k folk r s : Nat) : Nat := min (60 * k) (60 * bestTo said k s folk + r)
def capL (said : List (List Int)) (k folk r n : Nat) : List Int := (List.range n).map fun s => (capG said k folk r s : Int)
theorem capL_len (said : List (List Int)) (k folk r n : Nat) : (capL said k folk r n).length = n := by simp [capL]
theorem capL_succ (said : List (List Int)) (k folk r n : Nat) : capL said k folk r n ++ [(capG said k folk r n : Int)] = capL said k folk r (n + 1) := by simp [capL, List.range_succ]
theorem capL_get {said : List (List Int)} {k folk r n s : Nat} (h : s < n) : (capL said k folk r n).getD s 0 = (capG said k folk r s : Int) := by simp [capL, List.getD_eq_getElem?_getD, h]
theorem capG_le (said : List (List Int)) (k folk r s : Nat) : capG said k folk r s ≤ 60 * k := by unfold capG; omega
/-- Some goal of the first n would be above 60 k. -/
def capB (said : List (List Int)) (k folk r : Nat) : Nat → Bool
  | 0 => false
  | n + 1 => capB said k folk r n || decide (capG said k folk r n < 60 * bestTo said k n folk + r)
theorem capB_false {said : List (List Int)} {k folk r n : Nat} (h : capB said k folk r n = false) (s : Nat) (hs : s < n) : capG said k folk r s = 60 * bestTo said k s folk + r := by
  induction n with
  | zero => omega
  | succ n ih =>
    simp only [capB, Bool.or_eq_false_iff, decide_eq_false_iff_not] at h
    rcases Nat.lt_or_ge s n with h1 | h1
    · exact ih h.1 h1
    · obtain rfl : s = n := by omega
      have := h.2
      unfold capG at this ⊢; omega
theorem capL_ok {said : List (List Int)} {k folk r : Nat} (h1 : 1 ≤ k) (h2 : k ≤ 10) : goalOk k (capL said k folk r (2 ^ k)) = true := by
  unfold goalOk
  rw [Bool.and_eq_true, decide_eq_true_eq, List.all_eq_true]
  refine ⟨⟨by omega, by omega, by rw [capL_len]; simp⟩, fun g hg => ?_⟩
  unfold capL at hg
  rw [List.mem_map] at hg
  obtain ⟨s, _, rfl⟩ := hg
  have := capG_le said k folk r s
  simp; omega
theorem capL_free {said : List (List Int)} {k folk r : Nat} (h : capB said k folk r (2 ^ k) = false) : capL said k folk r (2 ^ k) = goalF said k folk r := by
  unfold capL goalF
  refine List.map_congr_left fun s hs => ?_
  rw [capB_false h s (by simpa using hs)]; simp
theorem cap_can {said : List (List Int)} {k folk r : Nat} (hb : Bits said k folk) (hk : 1 ≤ k) (hf : 1 ≤ folk) (hr : 60 * regN k folk said = r * regD k folk said) (h : canB k (capL said k folk r (2 ^ k)) = false) : capB said k folk r (2 ^ k) = true := by
  cases hc : capB said k folk r (2 ^ k)
  · rw [capL_free hc, goalF_can hb hk hf r (by exact_mod_cast hr)] at h
    cases h
  · rfl
/-- The first j of some numbers, each the rest of halving. -/
def halfL (ns : List Int) (j : Nat) : List Int := (List.range j).map fun i => ns.getD i 0 % 2
theorem halfL_len (ns : List Int) (j : Nat) : (halfL ns j).length = j := by simp [halfL]
theorem halfL_succ (ns : List Int) (j : Nat) : halfL ns j ++ [ns.getD j 0 % 2] = halfL ns (j + 1) := by simp [halfL, List.range_succ]
theorem halfL_bits (ns : List Int) (j : Nat) : (halfL ns j).all bitB = true := by
  rw [List.all_eq_true]
  intro x hx
  unfold halfL at hx
  rw [List.mem_map] at hx
  obtain ⟨i, _, rfl⟩ := hx
  rw [bitB_iff]; omega
end Go.Proofs.Ytfaenbaaadjbbaa
