/- Plain laws: points and signs; weights that are learned. No condition. -/
import Derived.Test.YtfaenbaaadjbbaaPlain15
namespace Go.Proofs.Ytfaenbaaadjbbaa

def farB (x : Int) : Bool := decide (x < -100) || decide (100 < x)
def signB (x : Int) : Bool := x == 1 || x == -1
def rowOk (d : Nat) (p : List Int) : Bool := decide (p.length = d) && !p.any farB
def ptsOk (pts : List (List Int)) (signs : List Int) : Bool :=
  decide (1 ≤ pts.length ∧ 1 ≤ (pts.getD 0 []).length ∧ (pts.getD 0 []).length ≤ 6 ∧ signs.length = pts.length) && (pts.all (rowOk (pts.getD 0 []).length) && signs.all signB)
def ptErr (pts : List (List Int)) (signs : List Int) : Int := if 50 < pts.length then 3 else if ptsOk pts signs = true then 0 else 2
theorem farB_iff (x : Int) : farB x = false ↔ -100 ≤ x ∧ x ≤ 100 := by
  unfold farB
  rw [Bool.or_eq_false_iff, decide_eq_false_iff_not, decide_eq_false_iff_not]; omega
theorem signB_iff (x : Int) : signB x = true ↔ x = 1 ∨ x = -1 := by simp [signB]
theorem pts_facts {pts : List (List Int)} {signs : List Int} (h : ptErr pts signs = 0) :
    1 ≤ pts.length ∧ pts.length ≤ 50 ∧ 1 ≤ (pts.getD 0 []).length ∧ (pts.getD 0 []).length ≤ 6 ∧ signs.length = pts.length ∧ (∀ i, i < pts.length → (pts.getD i []).length = (pts.getD 0 []).length ∧ ∀ j, -100 ≤ (pts.getD i []).getD j 0 ∧ (pts.getD i []).getD j 0 ≤ 100) ∧ ∀ i, i < pts.length → signs.getD i 0 = 1 ∨ signs.getD i 0 = -1 := by
  unfold ptErr at h
  split at h
  · cases h
  · rename_i h1
    split at h
    · rename_i h2
      unfold ptsOk at h2
      rw [Bool.and_eq_true, Bool.and_eq_true, decide_eq_true_eq, List.all_eq_true, List.all_eq_true] at h2
      obtain ⟨⟨a1, a2, a3, a4⟩, a5, a6⟩ := h2
      refine ⟨a1, by omega, a2, a3, a4, fun i hi => ?_, fun i hi => ?_⟩
      · have h3 := a5 _ (List.getElem_mem hi)
        have e : pts.getD i [] = pts[i] := by simp [List.getD_eq_getElem?_getD, hi]
        rw [e]
        unfold rowOk at h3
        rw [Bool.and_eq_true, decide_eq_true_eq, Bool.not_eq_true', List.any_eq_false] at h3
        refine ⟨h3.1, fun j => ?_⟩
        by_cases hj : j < (pts[i]).length
        · have h4 := h3.2 _ (List.getElem_mem hj)
          have e2 : (pts[i]).getD j 0 = (pts[i])[j] := by simp [List.getD_eq_getElem?_getD, hj]
          rw [e2]
          exact (farB_iff _).1 (by simpa using h4)
        · have e2 : (pts[i]).getD j 0 = 0 := by rw [List.getD_eq_getElem?_getD, List.getElem?_eq_none (by omega)]; rfl
          rw [e2]; omega
      · have h3 := a6 _ (List.getElem_mem (by omega : i < signs.length))
        have e : signs.getD i 0 = signs[i] := by simp [List.getD_eq_getElem?_getD, (by omega : i < signs.length)]
        rw [e]; exact (signB_iff _).1 h3
    · cases h
theorem pts_two {pts : List (List Int)} {signs : List Int} (h1 : pts.length ≤ 50) (h : ptErr pts signs ≠ 0) : ptErr pts signs = 2 := by
  unfold ptErr at h ⊢
  rw [if_neg (by omega)] at h ⊢
  split at h
  · exact absurd rfl h
  · rename_i h2; rw [if_neg h2]
theorem pts_none {pts : List (List Int)} {signs : List Int} (h1 : pts.length ≤ 50) (h : ¬ (1 ≤ pts.length ∧ 1 ≤ (pts.getD 0 []).length ∧ (pts.getD 0 []).length ≤ 6 ∧ signs.length = pts.length)) : ptErr pts signs = 2 :=
  pts_two h1 fun e => by
    obtain ⟨a, _, b, c, d, _⟩ := pts_facts e
    exact h ⟨a, b, c, d⟩
theorem pts_row {pts : List (List Int)} {signs : List Int} (h1 : pts.length ≤ 50) {i : Nat} (hi : i < pts.length) (h : rowOk (pts.getD 0 []).length (pts.getD i []) = false) : ptErr pts signs = 2 :=
  pts_two h1 fun e => by
    obtain ⟨_, _, _, _, _, b, _⟩ := pts_facts e
    obtain ⟨b1, b2⟩ := b i hi
    unfold rowOk at h
    rw [b1, decide_eq_true rfl, Bool.true_and, Bool.not_eq_false', List.any_eq_true] at h
    obtain ⟨x, hx, hf⟩ := h
    obtain ⟨j, hj, rfl⟩ := List.getElem_of_mem hx
    have h3 := b2 j
    have e2 : (pts.getD i []).getD j 0 = (pts.getD i [])[j] := by simp only [List.getD_eq_getElem?_getD] at hj ⊢; simp [hj]
    rw [e2] at h3
    rw [(farB_iff _).2 h3] at hf; cases hf
theorem pts_sign {pts : List (List Int)} {signs : List Int} (h1 : pts.length ≤ 50) {i : Nat} (hi : i < pts.length) (h : signB (signs.getD i 0) = false) : ptErr pts signs = 2 :=
  pts_two h1 fun e => by
    obtain ⟨_, _, _, _, _, _, b⟩ := pts_facts e
    rw [(signB_iff _).2 (b i hi)] at h; cases h
theorem pts_good {pts : List (List Int)} {signs : List Int} (h1 : pts.length ≤ 50) (h : 1 ≤ pts.length ∧ 1 ≤ (pts.getD 0 []).length ∧ (pts.getD 0 []).length ≤ 6 ∧ signs.length = pts.length) (h2 : ∀ i, i < pts.length → rowOk (pts.getD 0 []).length (pts.getD i []) = true) (h3 : ∀ i, i < signs.length → signB (signs.getD i 0) = true) : ptErr pts signs = 0 := by
  unfold ptErr ptsOk
  rw [if_neg (by omega), if_pos]
  rw [Bool.and_eq_true, Bool.and_eq_true, decide_eq_true_eq, List.all_eq_true, List.all_eq_true]
  refine ⟨h, fun x hx => ?_, fun x hx => ?_⟩
  · obtain ⟨j, hj, rfl⟩ := List.getElem_of_mem hx
    have := h2 j hj
    rwa [show pts.getD j [] = pts[j] from by simp [List.getD_eq_getElem?_getD, hj]] at this
  · obtain ⟨j, hj, rfl⟩ := List.getElem_of_mem hx
    have := h3 j hj
    rwa [show signs.getD j 0 = signs[j] from by simp [List.getD_eq_getElem?_getD, hj]] at this

/-! ### learning -/
/-- What one point changes: the weights and the number of mistakes. -/
def ptW (p : List Int) (g : Int) (d : Nat) (W : List Int) : List Int := (List.range d).map fun j => W.getD j 0 + g * p.getD j 0
def ptStep (p : List Int) (g : Int) (d : Nat) (s : List Int × Nat) : List Int × Nat := if 0 < g * dotTo p s.1 d then s else (ptW p g d s.1, s.2 + 1)
def rnd (pts : List (List Int)) (signs : List Int) (d : Nat) (s : List Int × Nat) : Nat → List Int × Nat
  | 0 => s
  | i + 1 => ptStep (pts.getD i []) (signs.getD i 0) d (rnd pts signs d s i)
def runs (pts : List (List Int)) (signs : List Int) (d : Nat) : Nat → List Int × Nat
  | 0 => (List.replicate d 0, 0)
  | r + 1 => rnd pts signs d (runs pts signs d r) pts.length
def calm (pts : List (List Int)) (signs : List Int) (d r : Nat) : Bool := (runs pts signs d (r + 1)).2 == (runs pts signs d r).2
def calmAt (pts : List (List Int)) (signs : List Int) (d R : Nat) : Option Nat := (List.range R).find? (calm pts signs d)
theorem calm_hit {pts : List (List Int)} {signs : List Int} {d R r : Nat} (hr : r < R) (h : calm pts signs d r = true) (hb : ∀ j, j < r → calm pts signs d j = false) : calmAt pts signs d R = some r := by
  unfold calmAt
  rw [List.find?_range_eq_some]
  exact ⟨h, by simpa using hr, fun j hj => by simp [hb j hj]⟩
theorem calm_miss {pts : List (List Int)} {signs : List Int} {d R : Nat} (hb : ∀ j, j < R → calm pts signs d j = false) : calmAt pts signs d R = none := by
  unfold calmAt
  rw [List.find?_eq_none]
  intro x hx
  rw [List.mem_range] at hx
  simp [hb x hx]
theorem calm_spec {pts : List (List Int)} {signs : List Int} {d R r : Nat} (h : calmAt pts signs d R = some r) : r < R ∧ calm pts signs d r = true := by
  unfold calmAt at h
  rw [List.find?_range_eq_some] at h
  exact ⟨by simpa using h.2.1, h.1⟩
def pcE (pts : List (List Int)) (signs : List Int) (R : Int) : Int := if ptErr pts signs = 0 then (if 1 ≤ R ∧ R ≤ 1000 then (if (calmAt pts signs (pts.getD 0 []).length R.toNat).isSome = true then 0 else 10) else 4) else ptErr pts signs
def pcW (pts : List (List Int)) (signs : List Int) (R : Int) : List Int := if pcE pts signs R = 0 then (runs pts signs (pts.getD 0 []).length ((calmAt pts signs (pts.getD 0 []).length R.toNat).getD 0 + 1)).1 else []
def pcM (pts : List (List Int)) (signs : List Int) (R : Int) : Int := if pcE pts signs R = 0 then (runs pts signs (pts.getD 0 []).length ((calmAt pts signs (pts.getD 0 []).length R.toNat).getD 0 + 1)).2 else 0
theorem ptW_len (p : List Int) (g : Int) (d : Nat) (W : List Int) : (ptW p g d W).length = d := by simp [ptW]
theorem ptW_get {p : List Int} {g : Int} {d : Nat} {W : List Int} {j : Nat} (h : j < d) : (ptW p g d W).getD j 0 = W.getD j 0 + g * p.getD j 0 := by simp [ptW, List.getD_eq_getElem?_getD, h]
/-- The weights are no greater than 100 a mistake. -/
def Held (d M : Nat) (s : List Int × Nat) : Prop := s.1.length = d ∧ s.2 ≤ M ∧ ∀ j, -(100 * (s.2 : Int)) ≤ s.1.getD j 0 ∧ s.1.getD j 0 ≤ 100 * (s.2 : Int)
theorem sgn_in {g x : Int} (hg : g = 1 ∨ g = -1) (hx : -100 ≤ x ∧ x ≤ 100) : -100 ≤ g * x ∧ g * x ≤ 100 := by rcases hg with rfl | rfl <;> omega
theorem Held.step {p : List Int} {g : Int} {d M : Nat} {s : List Int × Nat} (h : Held d M s) (hg : g = 1 ∨ g = -1) (hp : ∀ j, -100 ≤ p.getD j 0 ∧ p.getD j 0 ≤ 100) : Held d (M + 1) (ptStep p g d s) := by
  obtain ⟨h1, h2, h3⟩ := h
  unfold ptStep
  split
  · exact ⟨h1, by omega, h3⟩
  · refine ⟨ptW_len _ _ _ _, by simp only; omega, fun j => ?_⟩
    simp only
    rcases Nat.lt_or_ge j d with hj | hj
    · rw [ptW_get hj]
      have a := h3 j
      have b := sgn_in hg (hp j)
      rw [Int.natCast_add]
      omega
    · have e : (ptW p g d s.1).getD j 0 = 0 := by rw [List.getD_eq_getElem?_getD, List.getElem?_eq_none (by rw [ptW_len]; exact hj)]; rfl
      rw [e]; omega
theorem Held.rnd {pts : List (List Int)} {signs : List Int} {d M : Nat} {s : List Int × Nat} (h : Held d M s) (i : Nat) (hg : ∀ j, j < i → signs.getD j 0 = 1 ∨ signs.getD j 0 = -1) (hp : ∀ k, k < i → ∀ j, -100 ≤ (pts.getD k []).getD j 0 ∧ (pts.getD k []).getD j 0 ≤ 100) : Held d (M + i) (rnd pts signs d s i) := by
  induction i with
  | zero => exact h
  | succ i ih => exact (ih (fun j hj => hg j (by omega)) (fun k hk => hp k (by omega))).step (hg i (by omega)) (hp i (by omega))
theorem Held.runs {pts : List (List Int)} {signs : List Int} {d : Nat} (r : Nat) (hg : ∀ j, j < pts.length → signs.getD j 0 = 1 ∨ signs.getD j 0 = -1) (hp : ∀ k, k < pts.length → ∀ j, -100 ≤ (pts.getD k []).getD j 0 ∧ (pts.getD k []).getD j 0 ≤ 100) : Held d (r * pts.length) (runs pts signs d r) := by
  induction r with
  | zero =>
    refine ⟨by simp [Ytfaenbaaadjbbaa.runs], Nat.zero_le _, fun j => ?_⟩
    have e : ((Ytfaenbaaadjbbaa.runs pts signs d 0).1).getD j 0 = 0 := by
      show (List.replicate d (0 : Int)).getD j 0 = 0
      by_cases h : j < d <;> simp [List.getD_eq_getElem?_getD, h]
    rw [e]; omega
  | succ r ih =>
    have := ih.rnd pts.length hg hp
    rw [Nat.add_mul, Nat.one_mul]
    exact this
theorem dot_small {p W : List Int} {B : Int} (hp : ∀ j, -100 ≤ p.getD j 0 ∧ p.getD j 0 ≤ 100) (hw : ∀ j, -B ≤ W.getD j 0 ∧ W.getD j 0 ≤ B) (k : Nat) : -(k * (100 * B)) ≤ dotTo p W k ∧ dotTo p W k ≤ k * (100 * B) := by
  induction k with
  | zero => exact ⟨by simp [dotTo, sumI], by simp [dotTo, sumI]⟩
  | succ k ih =>
    have e : dotTo p W (k + 1) = dotTo p W k + p.getD k 0 * W.getD k 0 := rfl
    have h1 := hp k
    have h2 := hw k
    have hm : -(100 * B) ≤ p.getD k 0 * W.getD k 0 ∧ p.getD k 0 * W.getD k 0 ≤ 100 * B := by
      generalize p.getD k 0 = x at *
      generalize W.getD k 0 = y at *
      have a1 : (100 - x) * (B - y) ≥ 0 := Int.mul_nonneg (by omega) (by omega)
      have a2 : (100 + x) * (B + y) ≥ 0 := Int.mul_nonneg (by omega) (by omega)
      have a3 : (100 - x) * (B + y) ≥ 0 := Int.mul_nonneg (by omega) (by omega)
      have a4 : (100 + x) * (B - y) ≥ 0 := Int.mul_nonneg (by omega) (by omega)
      rw [Int.sub_mul, Int.mul_sub, Int.mul_sub] at a1
      rw [Int.add_mul, Int.mul_add, Int.mul_add] at a2
      rw [Int.sub_mul, Int.mul_add, Int.mul_add] at a3
      rw [Int.add_mul, Int.mul_sub, Int.mul_sub] at a4
      generalize x * y = z at *
      generalize x * B = u at *
      omega
    rw [e, Int.natCast_add, Int.natCast_one, Int.add_mul, Int.one_mul]
    generalize (k : Int) * (100 * B) = K at *
    omega
end Go.Proofs.Ytfaenbaaadjbbaa
