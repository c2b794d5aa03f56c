/- Plain: bases counted by leaving a fence out and by closing it. -/
import Derived.Test.YtmepndnckcpgjaaGreatM1
import Derived.Test.YtmepndnckcpgjaaGreatPlain25
namespace Go.Proofs.YtmepndnckcpgjaaGreat
/-! ### sets of one fence more -/
theorem bit_even (S j : Nat) : (2 * S).testBit j = if j = 0 then false else S.testBit (j - 1) := by
  cases j with
  | zero => simp [Nat.testBit_zero]
  | succ j => rw [Nat.testBit_succ, show 2 * S / 2 = S by omega]; simp
theorem bit_odd (S j : Nat) : (2 * S + 1).testBit j = if j = 0 then true else S.testBit (j - 1) := by
  cases j with
  | zero => simp [Nat.testBit_zero]
  | succ j => rw [Nat.testBit_succ, show (2 * S + 1) / 2 = S by omega]; simp
theorem odd_or (S : Nat) : 2 * S ||| 2 ^ 0 = 2 * S + 1 := by
  apply Nat.eq_of_testBit_eq
  intro j
  rw [Nat.testBit_or, bit_even, bit_odd, Nat.testBit_two_pow]
  by_cases h : j = 0
  · subst h; simp
  · have : ¬ 0 = j := fun e => h e.symm
    simp [h, this]
theorem size_even (S : Nat) : ∀ k, sizeTo (2 * S) (k + 1) = sizeTo S k
  | 0 => by simp [sizeTo]
  | k + 1 => by rw [sizeTo, size_even S k, bit_even, sizeTo]; simp
theorem size_odd (S : Nat) : ∀ k, sizeTo (2 * S + 1) (k + 1) = sizeTo S k + 1
  | 0 => by simp [sizeTo, bit_odd]
  | k + 1 => by rw [sizeTo, size_odd S k, bit_odd, sizeTo]; simp; omega
theorem cho_even (f : Int × Int) (t : List (Int × Int)) (S : Nat) : ∀ k, choTo (f :: t) (2 * S) (k + 1) = choTo t S k
  | 0 => by simp [choTo]
  | k + 1 => by rw [choTo, cho_even f t S k, bit_even, choTo]; simp
theorem cho_odd (f : Int × Int) (t : List (Int × Int)) (S : Nat) : ∀ k, choTo (f :: t) (2 * S + 1) (k + 1) = f :: choTo t S k
  | 0 => by simp [choTo, bit_odd]
  | k + 1 => by
    rw [choTo, cho_odd f t S k, bit_odd, choTo]
    simp only [Nat.add_eq_zero_iff, Nat.one_ne_zero, and_false, if_false, Nat.add_sub_cancel, List.getD_cons_succ]
    split <;> simp
theorem choTo_map (g : Int × Int → Int × Int) (t : List (Int × Int)) (S : Nat) : ∀ k, k ≤ t.length → choTo (t.map g) S k = (choTo t S k).map g
  | 0, _ => rfl
  | k + 1, hk => by
    rw [choTo, choTo, choTo_map g t S k (by omega)]
    have e : (t.map g).getD k (0, 0) = g (t.getD k (0, 0)) := by
      rw [List.getD_eq_getElem?_getD, List.getD_eq_getElem?_getD, List.getElem?_map, List.getElem?_eq_getElem (show k < t.length by omega)]
      rfl
    rw [e]
    split <;> simp
section
variable {n : Nat} {f : Int × Int} {t : List (Int × Int)} (h : garE n (f :: t) = 0)
include h
theorem ends_in : 0 ≤ f.1 ∧ f.1 < n ∧ 0 ≤ f.2 ∧ f.2 < n := by
  have := (garE_facts h).2.2.2 0 (by simp)
  simpa using this
theorem gar_tail : garE n t = 0 := garE_tail h
theorem gar_cl : garE n (clL (f :: t)) = 0 := garE_cl h (by simp)
theorem rk_even (S : Nat) : rk n (f :: t) (2 * S) = rk n t S := by
  unfold rk
  rw [← groups_cho h (2 * S), ← groups_cho (gar_tail h) S]
  have e : cho (f :: t) (2 * S) = cho t S := cho_even f t S t.length
  rw [e]
theorem rk_loop (hf : f.1 = f.2) (S : Nat) : rk n (f :: t) (2 * S + 1) = rk n t S := by
  rw [← odd_or, ← rk_even h S]
  refine (rk_more h (2 * S) (show 0 < (f :: t).length by simp)).2 ?_
  rintro ⟨y, _, _, hc⟩
  unfold crs fA fC at hc
  simp [hf] at hc
omit h in
theorem clL_cons : clL (f :: t) = t.map (clF f) := rfl
theorem rk_closed (hf : f.1 ≠ f.2) (S : Nat) : rk n (f :: t) (2 * S + 1) = rk n (clL (f :: t)) S + 1 := by
  obtain ⟨a0, a1, b0, b1⟩ := ends_in h
  obtain ⟨g0, gN⟩ := groups_num h (2 * S + 1)
  obtain ⟨k0, kN⟩ := groups_num (gar_cl h) S
  have hab : f.1.toNat ≠ f.2.toNat := by omega
  have hM : 2 ^ f.2.toNat < 2 ^ n := Nat.pow_lt_pow_right (by omega) (by omega)
  have hc1 : cho (f :: t) (2 * S + 1) = f :: cho t S := cho_odd f t S t.length
  have hc2 : cho (clL (f :: t)) S = (cho t S).map (clF f) := by
    unfold cho
    rw [clL_cons, List.length_map]
    exact choTo_map (clF f) t S t.length (Nat.le_refl _)
  have hin : ∀ e ∈ cho t S, (0 ≤ e.1 ∧ e.1 < n) ∧ 0 ≤ e.2 ∧ e.2 < n := fun e he => by
    obtain ⟨j, h1, _, rfl⟩ := mem_choTo.1 he
    have := (garE_facts (gar_tail h)).2.2.2 j h1
    omega
  have hP : ∀ x, clK (clL (f :: t)) S (clL (f :: t)).length x = true ↔ ∀ e ∈ cho t S, x.testBit (clF f e).1.toNat = x.testBit (clF f e).2.toNat := fun x => by
    rw [clK_clo, hc2]
    unfold Clo
    constructor
    · intro k e he
      exact k _ (List.mem_map.2 ⟨e, he, rfl⟩)
    · intro k e he
      obtain ⟨e', he', rfl⟩ := List.mem_map.1 he
      exact k e' he'
  have hne : ∀ e : Int × Int, (0 ≤ e.1 ∧ e.1 < n) ∧ 0 ≤ e.2 ∧ e.2 < n → (clF f e).1.toNat ≠ f.2.toNat ∧ (clF f e).2.toNat ≠ f.2.toNat := fun e he => by
    unfold clF
    simp only
    constructor <;> split <;> omega
  have hx : ∀ (x j : Nat), j ≠ f.2.toNat → (x ^^^ 2 ^ f.2.toNat).testBit j = x.testBit j := fun x j hj => by
    rw [Nat.testBit_xor, Nat.testBit_two_pow]
    have : ¬ f.2.toNat = j := fun e => hj e.symm
    simp [this]
  have hxB : ∀ x : Nat, (x ^^^ 2 ^ f.2.toNat).testBit f.2.toNat = !x.testBit f.2.toNat := fun x => by
    rw [Nat.testBit_xor, Nat.testBit_two_pow_self]
    cases x.testBit f.2.toNat <;> rfl
  have hh := half_count hM (clK (clL (f :: t)) S (clL (f :: t)).length) (fun x => x.testBit f.1.toNat == x.testBit f.2.toNat) (fun x => by
    rw [Bool.eq_iff_iff, hP, hP]
    constructor
    · intro k e he
      have := k e he
      rwa [hx x _ (hne e (hin e he)).1, hx x _ (hne e (hin e he)).2] at this
    · intro k e he
      rw [hx x _ (hne e (hin e he)).1, hx x _ (hne e (hin e he)).2]
      exact k e he) (fun x _ => by
    show ((x ^^^ 2 ^ f.2.toNat).testBit f.1.toNat == (x ^^^ 2 ^ f.2.toNat).testBit f.2.toNat) = !(x.testBit f.1.toNat == x.testBit f.2.toNat)
    rw [hx x _ hab, hxB]
    cases x.testBit f.1.toNat <;> cases x.testBit f.2.toNat <;> rfl)
  have hk : (List.range (2 ^ n)).countP (fun x => clK (clL (f :: t)) S (clL (f :: t)).length x && (x.testBit f.1.toNat == x.testBit f.2.toNat)) = numC n (f :: t) (2 * S + 1) (f :: t).length := by
    unfold numC
    congr 1
    funext x
    rw [Bool.eq_iff_iff, Bool.and_eq_true, hP, clK_clo, hc1, beq_iff_eq]
    unfold Clo
    simp only [List.mem_cons, forall_eq_or_imp]
    have key : x.testBit f.1.toNat = x.testBit f.2.toNat → ∀ e ∈ cho t S, x.testBit (clF f e).1.toNat = x.testBit e.1.toNat ∧ x.testBit (clF f e).2.toNat = x.testBit e.2.toNat := fun hq e _ => by
      unfold clF
      simp only
      constructor
      · split
        · rename_i e1; rw [e1, hq]
        · rfl
      · split
        · rename_i e1; rw [e1, hq]
        · rfl
    constructor
    · rintro ⟨k1, k2⟩
      refine ⟨k2, fun e he => ?_⟩
      rw [← (key k2 e he).1, ← (key k2 e he).2]
      exact k1 e he
    · rintro ⟨k2, k1⟩
      refine ⟨fun e he => ?_, k2⟩
      rw [(key k2 e he).1, (key k2 e he).2]
      exact k1 e he
  rw [hk, gN] at hh
  have hh2 : 2 ^ (groupsN n (clL (f :: t)) S).toNat = 2 * 2 ^ (groupsN n (f :: t) (2 * S + 1)).toNat := kN.symm.trans hh
  have := two_pow_half hh2
  unfold rk
  omega
omit h in
theorem all_odd : 2 ^ (f :: t).length - 1 = 2 * (2 ^ t.length - 1) + 1 := by
  have := Nat.two_pow_pos t.length
  rw [List.length_cons, Nat.pow_succ]
  omega
omit h in
theorem clL_len : (clL (f :: t)).length = t.length := by rw [clL_cons, List.length_map]
/-! ### bases -/
theorem bas_loop (hf : f.1 = f.2) (S : Nat) (hS : S < 2 ^ t.length) : (Bas n (f :: t) (2 * S) ↔ Bas n t S) ∧ ¬ Bas n (f :: t) (2 * S + 1) := by
  unfold Bas
  rw [all_odd, List.length_cons, size_even, size_odd, rk_even h, rk_loop h hf, rk_loop h hf]
  have := (rk_le (gar_tail h) S hS).2
  exact ⟨Iff.rfl, fun e => by omega⟩
theorem bas_closed (hf : f.1 ≠ f.2) (S : Nat) : Bas n (f :: t) (2 * S + 1) ↔ Bas n (clL (f :: t)) S := by
  unfold Bas
  rw [all_odd, clL_len, List.length_cons, size_odd, rk_closed h hf, rk_closed h hf]
  constructor <;> (rintro ⟨h1, h2⟩; exact ⟨by omega, by omega⟩)
omit h in
theorem nd_all : nd (allM (f :: t).length) (2 ^ 0) = 2 * (2 ^ t.length - 1) := by
  apply Nat.eq_of_testBit_eq
  intro j
  rw [nd_testBit, allM_bit, bit_even, Nat.testBit_two_pow, List.length_cons]
  have e : (2 ^ t.length - 1).testBit (j - 1) = decide (j - 1 < t.length) := allM_bit t.length (j - 1)
  rw [e]
  by_cases hj : j = 0
  · subst hj; simp
  · have h1 : ¬ 0 = j := fun e => hj e.symm
    have h2 : decide (j < t.length + 1) = decide (j - 1 < t.length) := by rw [decide_eq_decide]; omega
    rw [h2]
    simp [hj, h1]
theorem rk_bridge : brB n (f :: t) 0 = decide (rk n t (2 ^ t.length - 1) < rk n (f :: t) (2 ^ (f :: t).length - 1)) := by
  unfold brB
  rw [nd_all, ← rk_even h]
  unfold rk allM
  rw [decide_eq_decide]
  omega
theorem bas_bridge (hb : brB n (f :: t) 0 = true) (S : Nat) (hS : S < 2 ^ t.length) : ¬ Bas n (f :: t) (2 * S) := by
  rw [rk_bridge h, decide_eq_true_eq] at hb
  unfold Bas
  rw [List.length_cons, size_even, rk_even h]
  rintro ⟨h1, h2⟩
  have h3 := (rk_drop (gar_tail h) (S := 2 ^ t.length - 1) (T := S) (by have := Nat.two_pow_pos t.length; omega) (fun j hj => by
    have e : (2 ^ t.length - 1).testBit j = decide (j < t.length) := allM_bit t.length j
    rw [e, decide_eq_true_eq]
    rcases Nat.lt_or_ge j t.length with h4 | h4
    · exact h4
    · rw [Nat.testBit_lt_two_pow (Nat.lt_of_lt_of_le hS (Nat.pow_le_pow_right (by omega) h4))] at hj
      cases hj)).1
  rw [List.length_cons] at hb
  omega
theorem bas_left (hb : brB n (f :: t) 0 = false) (S : Nat) : Bas n (f :: t) (2 * S) ↔ Bas n t S := by
  rw [rk_bridge h, decide_eq_false_iff_not] at hb
  have h1 := (rk_step_le h (2 * (2 ^ t.length - 1)) (show 0 < (f :: t).length by simp)).1
  rw [odd_or, ← all_odd (f := f) (t := t), rk_even h] at h1
  have e : rk n (f :: t) (2 ^ (f :: t).length - 1) = rk n t (2 ^ t.length - 1) := by omega
  unfold Bas
  rw [e, List.length_cons, size_even, rk_even h]
end
/-! ### counting -/
theorem count_half (P : Nat → Bool) : ∀ N, (List.range (2 * N)).countP P = (List.range N).countP (fun S => P (2 * S)) + (List.range N).countP fun S => P (2 * S + 1)
  | 0 => rfl
  | N + 1 => by
    rw [show 2 * (N + 1) = 2 * N + 1 + 1 by omega, List.range_succ, List.range_succ, List.range_succ, List.countP_append, List.countP_append, List.countP_append, List.countP_append, count_half P N]
    simp only [List.countP_cons, List.countP_nil]
    omega
/-- how many bases there are. -/
def numB (n : Nat) (fs : List (Int × Int)) : Nat := (List.range (2 ^ fs.length)).countP fun S => decide (Bas n fs S)
theorem numB_nil (n : Nat) : numB n [] = 1 := by
  have hb : Bas n [] 0 := by
    unfold Bas
    rw [rk_zero]
    refine ⟨rfl, ?_⟩
    show sizeTo 0 0 = rk n [] 0
    rw [rk_zero]
    rfl
  unfold numB
  show [0].countP _ = 1
  simp [hb]
theorem numB_cons {n : Nat} {f : Int × Int} {t : List (Int × Int)} : numB n (f :: t) = ((List.range (2 ^ t.length)).countP fun S => decide (Bas n (f :: t) (2 * S))) + (List.range (2 ^ t.length)).countP fun S => decide (Bas n (f :: t) (2 * S + 1)) := by
  unfold numB
  rw [List.length_cons, Nat.pow_succ, Nat.mul_comm, count_half]
theorem count_none {N : Nat} {P : Nat → Bool} (h : ∀ S, S < N → P S = false) : (List.range N).countP P = 0 := by
  rw [List.countP_eq_zero]
  intro S hS
  rw [h S (List.mem_range.1 hS)]
  decide
theorem count_same {N : Nat} {P Q : Nat → Bool} (h : ∀ S, S < N → P S = Q S) : (List.range N).countP P = (List.range N).countP Q := by
  refine List.countP_congr fun S hS => ?_
  rw [h S (List.mem_range.1 hS)]
section
variable {n : Nat} {f : Int × Int} {t : List (Int × Int)} (h : garE n (f :: t) = 0)
include h
theorem numB_loop (hf : f.1 = f.2) : numB n (f :: t) = numB n t := by
  rw [numB_cons, count_none (P := fun S => decide (Bas n (f :: t) (2 * S + 1))) fun S hS => decide_eq_false (bas_loop h hf S hS).2]
  exact count_same fun S hS => decide_eq_decide.2 (bas_loop h hf S hS).1
theorem numB_bridge (hf : f.1 ≠ f.2) (hb : brB n (f :: t) 0 = true) : numB n (f :: t) = numB n (clL (f :: t)) := by
  rw [numB_cons, count_none (P := fun S => decide (Bas n (f :: t) (2 * S))) fun S hS => decide_eq_false (bas_bridge h hb S hS), Nat.zero_add]
  unfold numB
  rw [clL_len]
  exact count_same fun S _ => decide_eq_decide.2 (bas_closed h hf S)
theorem numB_both (hf : f.1 ≠ f.2) (hb : brB n (f :: t) 0 = false) : numB n (f :: t) = numB n t + numB n (clL (f :: t)) := by
  rw [numB_cons]
  congr 1
  · exact count_same fun S _ => decide_eq_decide.2 (bas_left h hb S)
  · unfold numB
    rw [clL_len]
    exact count_same fun S _ => decide_eq_decide.2 (bas_closed h hf S)
end
/-! ### the value at 1, 1 -/
theorem row_plus (a b : Tm) (j : Nat) : ∀ s, rowF (plusT a b) 1 j s = rowF a 1 j s + rowF b 1 j s
  | 0 => rfl
  | s + 1 => by
    rw [rowF, rowF, rowF, row_plus a b j s]
    unfold plusT
    omega
theorem out_plus (a b : Tm) : ∀ s, outF (plusT a b) 1 1 s = outF a 1 1 s + outF b 1 1 s
  | 0 => rfl
  | s + 1 => by
    rw [outF, outF, outF, out_plus a b s, row_plus]
    omega
theorem row_tx (a : Tm) (j : Nat) : ∀ s, s ≤ 14 → rowF (txT a) 1 j s = rowF a 1 j (s + 1) - a j 14
  | 0, _ => by simp [rowF]
  | s + 1, hs => by
    have e2 : rowF a 1 j (s + 1 + 1) = rowF a 1 j (s + 1) * 1 + a j (14 - (s + 1)) := rfl
    rw [rowF, row_tx a j s (by omega), e2]
    have e : txT a j (14 - s) = a j (14 - (s + 1)) := by
      unfold txT
      rw [if_neg (by omega), show 14 - s - 1 = 14 - (s + 1) by omega]
    rw [e]
    omega
theorem row_tx15 (a : Tm) (j : Nat) (h : a j 14 = 0) : rowF (txT a) 1 j 15 = rowF a 1 j 15 := by
  rw [rowF, row_tx a j 14 (by omega), h]
  have e : txT a j (14 - 14) = 0 := rfl
  have e2 : rowF a 1 j (14 + 1) = rowF a 1 j 15 := rfl
  rw [e, e2]
  omega
theorem out_tx (a : Tm) (h : ∀ j, a j 14 = 0) : ∀ s, outF (txT a) 1 1 s = outF a 1 1 s
  | 0 => rfl
  | s + 1 => by rw [outF, outF, out_tx a h s, row_tx15 a _ (h _)]
theorem row_ty (a : Tm) (j : Nat) : ∀ s, rowF (tyT a) 1 j s = if j = 0 then 0 else rowF a 1 (j - 1) s
  | 0 => by simp [rowF]
  | s + 1 => by
    rw [rowF, row_ty a j s]
    unfold tyT
    split
    · rfl
    · rw [rowF]
theorem row_zero (a : Tm) (j : Nat) (h : ∀ i, a j i = 0) : ∀ s, rowF a 1 j s = 0
  | 0 => rfl
  | s + 1 => by rw [rowF, row_zero a j h s, h]; rfl
theorem out_ty (a : Tm) (h : ∀ i, a 14 i = 0) : ∀ s, s ≤ 14 → outF (tyT a) 1 1 s = outF a 1 1 (s + 1)
  | 0, _ => by
    rw [outF, outF, outF, row_zero a 14 h]
    rfl
  | s + 1, hs => by
    have e2 : outF a 1 1 (s + 1 + 1) = outF a 1 1 (s + 1) * 1 + rowF a 1 (14 - (s + 1)) 15 := rfl
    rw [outF, out_ty a h s (by omega), e2, row_ty, if_neg (by omega), show 14 - s - 1 = 14 - (s + 1) by omega]
theorem out_ty15 (a : Tm) (h : ∀ i, a 14 i = 0) : outF (tyT a) 1 1 15 = outF a 1 1 15 := by
  have e2 : outF a 1 1 (14 + 1) = outF a 1 1 15 := rfl
  rw [outF, out_ty a h 14 (by omega), row_ty, if_pos rfl, e2]
  omega
theorem poly_deg (n : Nat) : ∀ k fs j i, k < j ∨ k < i → polyF n k fs j i = 0
  | 0, fs, j, i, h => by
    simp only [polyF, oneT]
    rw [if_neg (by omega)]
  | k + 1, fs, j, i, h => by
    rw [polyF]
    split
    · unfold tyT
      split
      · rfl
      · exact poly_deg n k _ _ _ (by omega)
    · split
      · unfold txT
        split
        · rfl
        · exact poly_deg n k _ _ _ (by omega)
      · unfold plusT
        rw [poly_deg n k fs.tail j i (by omega), poly_deg n k (clL fs) j i (by omega)]
        rfl
/-- The value at 1, 1 is the number of bases. -/
theorem val_numB {n : Nat} : ∀ k, k ≤ 13 → ∀ fs, fs.length = k → garE n fs = 0 → outF (polyF n k fs) 1 1 15 = numB n fs
  | 0, _, fs, hl, _ => by
    obtain rfl : fs = [] := List.eq_nil_of_length_eq_zero hl
    rw [numB_nil]
    show outF oneT 1 1 15 = 1
    decide +kernel
  | k + 1, hk, fs, hl, h => by
    cases fs with
    | nil => cases hl
    | cons f t =>
      have ht : t.length = k := by simpa using hl
      have e0 : (f :: t).getD 0 (0, 0) = f := rfl
      have e1 : (f :: t).tail = t := rfl
      rw [polyF, e0, e1]
      by_cases hf : f.1 = f.2
      · rw [if_pos hf, out_ty15 _ (fun i => poly_deg n k t 14 i (by omega)), val_numB k (by omega) t ht (gar_tail h), numB_loop h hf]
      · rw [if_neg hf]
        cases hb : brB n (f :: t) 0
        · rw [if_neg (by decide), out_plus, val_numB k (by omega) t ht (gar_tail h), val_numB k (by omega) (clL (f :: t)) (by rw [clL_len]; exact ht) (gar_cl h), numB_both h hf hb]
          omega
        · rw [if_pos rfl, out_tx _ (fun j => poly_deg n k (clL (f :: t)) j 14 (by omega)), val_numB k (by omega) (clL (f :: t)) (by rw [clL_len]; exact ht) (gar_cl h), numB_bridge h hf hb]
theorem one_ok {T : Tm} (h : ∀ j i, 0 ≤ T j i ∧ T j i ≤ 1024) : AtOk T 1 1 := by
  have hr : ∀ j s, 0 ≤ rowF T 1 j s ∧ rowF T 1 j s ≤ 1024 * (s : Int) := by
    intro j s
    induction s with
    | zero => simp [rowF]
    | succ s ih =>
      have := h j (14 - s)
      rw [rowF]
      omega
  have ho : ∀ s, 0 ≤ outF T 1 1 s ∧ outF T 1 1 s ≤ 15360 * (s : Int) := by
    intro s
    induction s with
    | zero => simp [outF]
    | succ s ih =>
      have := hr (14 - s) 15
      rw [outF]
      omega
  refine ⟨fun j _ s hs => ?_, fun s hs => ?_⟩
  · have h1 := hr j s
    have h2 := h j (14 - s)
    exact ⟨⟨by omega, by omega⟩, by omega, by omega⟩
  · have h1 := ho s
    have h2 := hr (14 - s) 15
    exact ⟨⟨by omega, by omega⟩, by omega, by omega⟩
end Go.Proofs.YtmepndnckcpgjaaGreat
