/- Plain laws: some nights as a number. No condition. -/
import Derived.Test.YtfaenbaaadjbbaaPlain5
namespace Go.Proofs.Ytfaenbaaadjbbaa

def bnum (l : List Int) : Nat := l.foldl (fun a x => 2 * a + x.toNat) 0
def bnumTo (l : List Int) (j : Nat) : Nat := bnum (l.take j)
theorem bnum_snoc (l : List Int) (x : Int) : bnum (l ++ [x]) = 2 * bnum l + x.toNat := by simp [bnum]
theorem bnumTo_succ {l : List Int} {j : Nat} (h : j < l.length) : bnumTo l (j + 1) = 2 * bnumTo l j + (l.getD j 0).toNat := by
  unfold bnumTo
  rw [List.take_succ_eq_append_getElem h, bnum_snoc]
  simp [List.getD_eq_getElem?_getD, h]
theorem bnumTo_lt {l : List Int} (hb : l.all bitB = true) (j : Nat) (h : j ≤ l.length) : bnumTo l j < 2 ^ j := by
  induction j with
  | zero => simp [bnumTo, bnum]
  | succ j ih =>
    have h1 := ih (by omega)
    rw [bnumTo_succ (by omega), Nat.pow_succ]
    rw [List.all_eq_true] at hb
    have hj : j < l.length := by omega
    have h2 := hb _ (List.getElem_mem hj)
    rw [bitB_iff] at h2
    have e : l.getD j 0 = l[j] := by simp [List.getD_eq_getElem?_getD, hj]
    rw [e]
    rcases h2 with h2 | h2 <;> rw [h2] <;> simp <;> omega
theorem bnum_lt {l : List Int} (hb : l.all bitB = true) : bnum l < 2 ^ l.length := by
  have h := bnumTo_lt hb l.length (Nat.le_refl _)
  unfold bnumTo at h
  rwa [List.take_length] at h
theorem bnumTo_all (l : List Int) : bnumTo l l.length = bnum l := by unfold bnumTo; rw [List.take_length]
theorem bit_get {l : List Int} (hb : l.all bitB = true) (j : Nat) : l.getD j 0 = 0 ∨ l.getD j 0 = 1 := by
  by_cases hj : j < l.length
  · rw [List.all_eq_true] at hb
    have h2 := hb _ (List.getElem_mem hj)
    rw [bitB_iff] at h2
    have e : l.getD j 0 = l[j] := by simp [List.getD_eq_getElem?_getD, hj]
    rw [e]; exact h2
  · left; simp [List.getD_eq_getElem?_getD, hj]
/-- The sum of some goals in the middle, up to j. -/
def blkTo (goal : List Int) (many b j : Nat) : Int := sumI (fun t => goal.getD (b * many + t) 0) j
theorem blkTo_all (goal : List Int) (j b : Nat) : blkTo goal (2 ^ j) b (2 ^ j) = blk goal j b := rfl
theorem blkTo_succ (goal : List Int) (many b j : Nat) : blkTo goal many b (j + 1) = blkTo goal many b j + goal.getD (b * many + j) 0 := rfl
theorem blkTo_in {goal : List Int} (hg : ∀ i, 0 ≤ goal.getD i 0 ∧ goal.getD i 0 ≤ 600) (many b j : Nat) : 0 ≤ blkTo goal many b j ∧ blkTo goal many b j ≤ 600 * j := by
  induction j with
  | zero => simp [blkTo, sumI]
  | succ j ih =>
    rw [blkTo_succ]
    have := hg (b * many + j)
    omega
theorem blk_in {goal : List Int} (hg : ∀ i, 0 ≤ goal.getD i 0 ∧ goal.getD i 0 ≤ 600) (j b : Nat) (hj : j ≤ 10) : 0 ≤ blk goal j b ∧ blk goal j b ≤ 614400 := by
  rw [← blkTo_all]
  have h := blkTo_in hg (2 ^ j) b (2 ^ j)
  have h2 : 2 ^ j ≤ 1024 := Nat.le_trans (Nat.pow_le_pow_right (by omega) hj) (by decide)
  omega
/-- A place among those of the series that begin so. -/
theorem in_blk {b many m t : Nat} (hb : b < m) (ht : t < many) : b * many + t < m * many := by
  have : (b + 1) * many ≤ m * many := Nat.mul_le_mul_right _ hb
  rw [Nat.add_mul, Nat.one_mul] at this
  omega
theorem pow_split {k m : Nat} (h : m ≤ k) : 2 ^ m * 2 ^ (k - m) = 2 ^ k := by rw [← Nat.pow_add]; congr 1; omega
theorem denG_le {k m : Nat} (h : k ≤ 10) : denG k m ≤ 30720 ∨ k = 0 := by
  rcases Nat.eq_zero_or_pos k with rfl | hk
  · exact .inr rfl
  · left
    unfold denG
    have : 2 ^ (k - m - 1) ≤ 2 ^ 9 := Nat.pow_le_pow_right (by omega) (by omega)
    omega
end Go.Proofs.Ytfaenbaaadjbbaa
