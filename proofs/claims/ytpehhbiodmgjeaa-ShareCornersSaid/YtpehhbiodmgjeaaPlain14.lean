/- Plain laws: what the first and the last of an order pay; a fair sharing lies between. No condition. -/
import Derived.Test.YtpehhbiodmgjeaaPlain13
namespace Go.Proofs.Ytpehhbiodmgjeaa

theorem payTo_one (l : List Int) (i : Nat) : ∀ k, payTo l (2 ^ i) k = if i < k then l.getD i 0 else 0
  | 0 => by simp [payTo]
  | k + 1 => by
    have e : payTo l (2 ^ i) (k + 1) = payTo l (2 ^ i) k + if (2 ^ i).testBit k then l.getD k 0 else 0 := rfl
    rw [e, payTo_one l i k, Nat.testBit_two_pow]
    by_cases h : i = k
    · subst h; simp
    · by_cases h1 : i < k
      · simp [h, h1, show i < k + 1 by omega]
      · simp [h, h1, show ¬ i < k + 1 by omega]
theorem pay_one (l : List Int) (i : Nat) (hi : i < l.length) : pay l (2 ^ i) = l.getD i 0 := by
  unfold pay
  rw [payTo_one, if_pos hi]
theorem and_pow_zero {m i : Nat} (h : m.testBit i = false) : m &&& 2 ^ i = 0 := by
  apply Nat.eq_of_testBit_eq
  intro j
  rw [Nat.testBit_and, Nat.testBit_two_pow, Nat.zero_testBit]
  by_cases e : i = j
  · subst e; simp [h]
  · simp [e]
theorem pay_split (l : List Int) (m i : Nat) (hi : i < l.length) (h : m.testBit i = false) : pay l (m ||| 2 ^ i) = pay l m + l.getD i 0 := by
  have h1 := pay_mod l m (2 ^ i)
  rw [and_pow_zero h, pay_zero, pay_one l i hi] at h1
  omega
/-- All but one. -/
def AllBut (n i m : Nat) : Prop := ∀ j, m.testBit j = (decide (j < n) && decide (j ≠ i))
theorem AllBut.eq {n i m k : Nat} (h1 : AllBut n i m) (h2 : AllBut n i k) : m = k := Nat.eq_of_testBit_eq fun j => by rw [h1 j, h2 j]
theorem AllBut.lt {n i m : Nat} (h : AllBut n i m) : m < 2 ^ n := by
  refine Nat.lt_pow_two_of_testBit m fun j hj => ?_
  rw [h j, decide_eq_false (by omega), Bool.false_and]
section
variable {n : Nat} {xs l : List Int} {ord : List Nat}
theorem AllBut.all {i m : Nat} (h : AllBut n i m) (h6 : n ≤ 6) (hi : i < n) : m ||| 2 ^ i = tail n 0 := by
  refine Nat.eq_of_testBit_eq fun j => ?_
  rw [Nat.testBit_or, Nat.testBit_two_pow, h j]
  by_cases hj : j < 7
  · rw [tail_bits n h6 0 (by omega) j hj]
    by_cases e : i = j
    · subst e; simp [hi]
    · simp [e]
      exact fun _ e2 => e e2.symm
  · have h1 : (tail n 0).testBit j = false := Nat.testBit_lt_two_pow (Nat.lt_of_lt_of_le (tail_lt n h6 0 (by omega)) (Nat.pow_le_pow_right (by decide) (by omega)))
    rw [h1, decide_eq_false (by omega : ¬ j < n), decide_eq_false (by omega : ¬ i = j)]
    rfl
variable (g : Good n xs)
include g
theorem fair_hi (hl : l.length = n) (hf : isFair xs l = true) {i : Nat} (hi : i < n) : l.getD i 0 ≤ xs.getD (2 ^ i) 0 := by
  have h := (isFair_facts g hf).1 (2 ^ i) (Nat.pow_lt_pow_right (by decide) hi)
  rwa [pay_one l i (by omega)] at h
theorem fair_lo (hl : l.length = n) (hf : isFair xs l = true) {i m : Nat} (hi : i < n) (hm : AllBut n i m) : xs.getD (tail n 0) 0 - xs.getD m 0 ≤ l.getD i 0 := by
  obtain ⟨f1, f2⟩ := isFair_facts g hf
  have h1 := f1 m hm.lt
  have h2 := pay_split l m i (by omega) (by rw [hm i]; simp)
  rw [hm.all g.n6 hi] at h2
  omega
variable (o : Ord n ord)
include o
theorem first_pay : (greedyL n xs ord).getD (ord.getD 0 0) 0 = xs.getD (2 ^ ord.getD 0 0) 0 := by
  have h1 := g.n1
  have h := greedy_pre g o 1 n h1 (Nat.le_refl _)
  have e : (gTo n xs ord 1).2 = 2 ^ ord.getD 0 0 := by
    rw [gTo_succ n xs ord 0 (by rw [o.len]; omega)]
    show 0 ||| 2 ^ ord.getD 0 0 = _
    rw [Nat.zero_or]
  rw [e, pay_one _ _ (by rw [gTo_len]; exact o.lt 0 h1)] at h
  rw [greedyL_eq o]
  exact h
theorem last_pay : ∃ m, AllBut n (ord.getD (n - 1) 0) m ∧ (greedyL n xs ord).getD (ord.getD (n - 1) 0) 0 = xs.getD (tail n 0) 0 - xs.getD m 0 := by
  have h1 := g.n1
  have hlt := o.lt (n - 1) (by omega)
  have hk : n - 1 < ord.length := by rw [o.len]; omega
  have hsplit : ord = ord.take (n - 1) ++ [ord.getD (n - 1) 0] := by
    have h2 : ord.take (n - 1 + 1) = ord.take (n - 1) ++ [ord.getD (n - 1) 0] := by
      rw [List.take_succ_eq_append_getElem hk]; simp [List.getD_eq_getElem?_getD, hk]
    rw [show n - 1 + 1 = n by omega, List.take_of_length_le (by rw [o.len]; exact Nat.le_refl _)] at h2
    exact h2
  have hnew := o.new (n - 1) (by omega)
  have hm : AllBut n (ord.getD (n - 1) 0) (gTo n xs ord (n - 1)).2 := fun j => by
    rw [mask_bit, Bool.eq_iff_iff, Bool.and_eq_true, decide_eq_true_eq, decide_eq_true_eq, decide_eq_true_eq]
    constructor
    · intro hj
      refine ⟨?_, fun e => hnew (by rw [← e]; exact hj)⟩
      obtain ⟨k, hk, e⟩ := List.getElem_of_mem (List.mem_of_mem_take hj)
      have := o.lt k (by rw [← o.len]; exact hk)
      simp [List.getD_eq_getElem?_getD, hk] at this
      omega
    · rintro ⟨h2, h3⟩
      have := o.mem j h2
      rw [hsplit] at this
      rcases List.mem_append.1 this with h4 | h4
      · exact h4
      · exact absurd (List.mem_singleton.1 h4) h3
  refine ⟨_, hm, ?_⟩
  have a1 := greedy_pre g o (n - 1) n (by omega) (Nat.le_refl _)
  have a2 := greedy_pre g o n n (Nat.le_refl _) (Nat.le_refl _)
  rw [mask_all g o] at a2
  have a3 := pay_split (gTo n xs ord n).1 (gTo n xs ord (n - 1)).2 (ord.getD (n - 1) 0) (by rw [gTo_len]; exact hlt) (by rw [hm]; simp)
  rw [hm.all g.n6 hlt] at a3
  rw [greedyL_eq o]
  omega
end
/-- Two orders with the same last. -/
theorem same_last {n : Nat} {xs : List Int} (g : Good n xs) {a b : List Nat} (oa : Ord n a) (ob : Ord n b) (h : a.getD (n - 1) 0 = b.getD (n - 1) 0) : (greedyL n xs a).getD (a.getD (n - 1) 0) 0 = (greedyL n xs b).getD (a.getD (n - 1) 0) 0 := by
  obtain ⟨m, h1, h2⟩ := last_pay g oa
  obtain ⟨k, h3, h4⟩ := last_pay g ob
  rw [← h] at h3 h4
  rw [h2, h4, h1.eq h3]
/-- There are orders with any one first, and last. -/
theorem ord_first {n i : Nat} (hi : i < n) : Ord n (i :: (List.range n).filter fun j => decide (j ≠ i)) ∧ Ord n (((List.range n).filter fun j => decide (j ≠ i)) ++ [i]) := by
  have hl : ((List.range n).filter fun j => decide (j ≠ i)).length = n - 1 := by
    have h1 : ((List.range n).filter fun j => decide (j ≠ i)) = (List.range n).erase i := by
      rw [List.nodup_range.erase_eq_filter]
      refine List.filter_congr fun j _ => ?_
      by_cases e : j = i <;> simp [e]
    rw [h1, List.length_erase_of_mem (List.mem_range.2 hi), List.length_range]
  have hnd : ((List.range n).filter fun j => decide (j ≠ i)).Nodup := List.nodup_range.filter _
  have hni : i ∉ (List.range n).filter fun j => decide (j ≠ i) := fun h => by simp at h
  have hlt : ∀ (L : List Nat), (∀ j ∈ L, j < n) → 0 < n → ∀ k, L.getD k 0 < n := fun L hL h0 k => by
    rcases Nat.lt_or_ge k L.length with hk | hk
    · simp only [List.getD_eq_getElem?_getD, List.getElem?_eq_getElem hk, Option.getD_some]
      exact hL _ (List.getElem_mem hk)
    · simp only [List.getD_eq_getElem?_getD, List.getElem?_eq_none hk, Option.getD_none]
      exact h0
  have hmem : ∀ j ∈ (List.range n).filter (fun j => decide (j ≠ i)), j < n := fun j hj => List.mem_range.1 (List.mem_filter.1 hj).1
  refine ⟨⟨by rw [List.length_cons, hl]; omega, fun j _ => hlt _ (fun x hx => ?_) (by omega) j, List.nodup_cons.2 ⟨hni, hnd⟩⟩, ⟨by rw [List.length_append, hl]; simp; omega, fun j _ => hlt _ (fun x hx => ?_) (by omega) j, List.nodup_append.2 ⟨hnd, by simp, fun a ha b hb e => hni (by rw [List.mem_singleton] at hb; exact (e.trans hb) ▸ ha)⟩⟩⟩
  · rcases List.mem_cons.1 hx with rfl | hx
    · exact hi
    · exact hmem x hx
  · rcases List.mem_append.1 hx with hx | hx
    · exact hmem x hx
    · rw [List.mem_singleton] at hx; subst hx; exact hi
end Go.Proofs.Ytpehhbiodmgjeaa
