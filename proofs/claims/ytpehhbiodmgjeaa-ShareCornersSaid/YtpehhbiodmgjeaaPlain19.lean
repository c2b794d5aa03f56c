/- Plain laws for ShareCorners. No condition. -/
import Derived.Test.YtpehhbiodmgjeaaPlain14
import Derived.Test.YtpehhbiodmgjeaaPlain17
import Derived.Test.YtpehhbiodmgjeaaPlain2
namespace Go.Proofs.Ytpehhbiodmgjeaa
theorem seenTo_back (os : List Int) : ∀ (k x : Nat), (seenTo os k).testBit x = true → ∃ j, j < k ∧ (os.getD j 0).toNat = x
  | 0, x, h => by
    have e : seenTo os 0 = 0 := rfl
    rw [e, Nat.zero_testBit] at h
    cases h
  | k + 1, x, h => by
    have e : seenTo os (k + 1) = seenTo os k ||| 2 ^ (os.getD k 0).toNat := rfl
    rw [e, Nat.testBit_or, Nat.testBit_two_pow, Bool.or_eq_true] at h
    rcases h with h | h
    · obtain ⟨j, h1, h2⟩ := seenTo_back os k x h
      exact ⟨j, by omega, h2⟩
    · exact ⟨k, by omega, by simpa using h⟩
theorem ordOk_of {n : Nat} {os : List Int} (hl : os.length = n) (hr : ∀ j, j < n → 0 ≤ os.getD j 0 ∧ os.getD j 0 < n) (hd : ∀ i j, i < j → j < n → os.getD i 0 ≠ os.getD j 0) : ordOk n os = true := by
  unfold ordOk
  simp only [Bool.and_eq_true, decide_eq_true_eq, List.all_eq_true, List.mem_range]
  refine ⟨hl, fun k hk => ⟨(hr k hk).1, (hr k hk).2, ?_⟩⟩
  rw [Bool.eq_false_iff]
  intro h
  obtain ⟨j, h1, h2⟩ := seenTo_back os k _ h
  have h3 := hr j (by omega)
  have h4 := hr k hk
  exact hd j k h1 hk (by omega)
theorem ordOk_ne {n : Nat} {os : List Int} (h : ordOk n os = true) {i j : Nat} (hi : i < n) (hj : j < n) (hij : i ≠ j) : os.getD i 0 ≠ os.getD j 0 := by
  obtain ⟨_, hk⟩ := ordOk_facts h
  intro e
  rcases Nat.lt_or_ge i j with h1 | h1
  · have h2 := seenTo_bit os j i h1
    rw [e, (hk j hj).2.2] at h2
    cases h2
  · have h2 := seenTo_bit os i j (by omega)
    rw [← e, (hk i hi).2.2] at h2
    cases h2
theorem ord_of_ok {n : Nat} {os : List Int} (h : ordOk n os = true) : Ord n (os.map Int.toNat) := by
  obtain ⟨hl, hk⟩ := ordOk_facts h
  refine ⟨by simp [hl], fun j hj => ?_, ordOk_nodup h⟩
  have h1 := hk j hj
  have h2 : (os.map Int.toNat).getD j 0 = (os.getD j 0).toNat := by
    simp [List.getD_eq_getElem?_getD, show j < os.length by omega]
  rw [h2]
  have := h1.1
  have := h1.2.1
  omega
theorem map_nat_get {n : Nat} {os : List Int} (h : os.length = n) {j : Nat} (hj : j < n) : (os.map Int.toNat).getD j 0 = (os.getD j 0).toNat := by
  simp [List.getD_eq_getElem?_getD, show j < os.length by omega]
theorem Ord.in_ordF {n : Nat} {ord : List Nat} (o : Ord n ord) : ord ∈ ordF n n [] := ord_mem.2 ⟨o.len, o.nd, fun x hx => by
  obtain ⟨j, hj, rfl⟩ := List.getElem_of_mem hx
  have := o.lt j (by rw [← o.len]; exact hj)
  simpa [List.getD_eq_getElem?_getD, hj] using this⟩
theorem Ord.corner {n : Nat} {ord : List Nat} (o : Ord n ord) (xs : List Int) : greedyL n xs ord ∈ crnL n xs := putAll_mem.2 (List.mem_map.2 ⟨ord, o.in_ordF, rfl⟩)
theorem corner_len {n : Nat} {xs y : List Int} (h : y ∈ crnL n xs) : y.length = n := gsL_row (putAll_mem.1 h)
/-- A fair sharing lies between two corners. -/
theorem between {n : Nat} {xs l : List Int} (g : Good n xs) (hl : l.length = n) (hf : isFair xs l = true) {i : Nat} (hi : i < n) : (∃ a ∈ crnL n xs, a.getD i 0 ≤ l.getD i 0) ∧ ∃ b ∈ crnL n xs, l.getD i 0 ≤ b.getD i 0 := by
  obtain ⟨o1, o2⟩ := ord_first hi
  constructor
  · refine ⟨_, o2.corner xs, ?_⟩
    obtain ⟨m, hm, e⟩ := last_pay g o2
    have hlen : ((List.range n).filter fun j => decide (j ≠ i)).length = n - 1 := by
      have := o2.len
      simp only [List.length_append, List.length_singleton] at this
      omega
    have hg : (((List.range n).filter fun j => decide (j ≠ i)) ++ [i]).getD (n - 1) 0 = i := by
      rw [← hlen]
      simp [List.getD_eq_getElem?_getD]
    rw [hg] at hm e
    rw [e]
    exact fair_lo g hl hf hi hm
  · refine ⟨_, o1.corner xs, ?_⟩
    have e := first_pay g o1
    have hg : (i :: (List.range n).filter fun j => decide (j ≠ i)).getD 0 0 = i := rfl
    rw [hg] at e
    rw [e]
    exact fair_hi g hl hf hi
/-- The others turned, the last as it was. -/
def othL (os : List Int) (n t k : Nat) : List Int := (List.range k).map fun i => os.getD ((i + t) % (n - 1)) 0
theorem othL_succ (os : List Int) (n t k : Nat) : othL os n t (k + 1) = othL os n t k ++ [os.getD ((k + t) % (n - 1)) 0] := by
  unfold othL; rw [List.range_succ, List.map_append]; rfl
theorem othL_len (os : List Int) (n t k : Nat) : (othL os n t k).length = k := by simp [othL]
def rotL (os : List Int) (n t : Nat) : List Int := othL os n t (n - 1) ++ [os.getD (n - 1) 0]
theorem rotL_len {os : List Int} {n : Nat} (hn : 1 ≤ n) (t : Nat) : (rotL os n t).length = n := by simp [rotL, othL_len]; omega
theorem rotL_get {os : List Int} {n : Nat} (t : Nat) {j : Nat} (hj : j < n - 1) : (rotL os n t).getD j 0 = os.getD ((j + t) % (n - 1)) 0 := by
  unfold rotL
  rw [List.getD_eq_getElem?_getD, List.getElem?_append_left (by rw [othL_len]; exact hj)]
  simp [othL, hj, List.getD_eq_getElem?_getD]
theorem rotL_last {os : List Int} {n : Nat} (t : Nat) : (rotL os n t).getD (n - 1) 0 = os.getD (n - 1) 0 := by
  unfold rotL
  rw [List.getD_eq_getElem?_getD, List.getElem?_append_right (by rw [othL_len]; exact Nat.le_refl _), othL_len]
  simp
theorem mod_inj {i j t m : Nat} (hi : i < m) (hj : j < m) (h : (i + t) % m = (j + t) % m) : i = j := by
  rcases Nat.le_total i j with h1 | h1
  · have h2 := Nat.sub_mod_eq_zero_of_mod_eq h.symm
    rw [show j + t - (i + t) = j - i by omega, Nat.mod_eq_of_lt (by omega)] at h2
    omega
  · have h2 := Nat.sub_mod_eq_zero_of_mod_eq h
    rw [show i + t - (j + t) = i - j by omega, Nat.mod_eq_of_lt (by omega)] at h2
    omega
theorem rotL_ok {os : List Int} {n : Nat} (hn : 1 ≤ n) (h : ordOk n os = true) (t : Nat) : ordOk n (rotL os n t) = true := by
  obtain ⟨hl, hk⟩ := ordOk_facts h
  have hidx : ∀ j, j < n - 1 → (j + t) % (n - 1) < n - 1 := fun j hj => Nat.mod_lt _ (by omega)
  refine ordOk_of (rotL_len hn t) (fun j hj => ?_) (fun i j hij hj => ?_)
  · rcases Nat.lt_or_ge j (n - 1) with h1 | h1
    · rw [rotL_get t h1]
      have := hk _ (show (j + t) % (n - 1) < n by have := hidx j h1; omega)
      exact ⟨this.1, this.2.1⟩
    · obtain rfl : j = n - 1 := by omega
      rw [rotL_last]
      have := hk (n - 1) (by omega)
      exact ⟨this.1, this.2.1⟩
  · rw [rotL_get t (show i < n - 1 by omega)]
    have h1 := hidx i (by omega)
    rcases Nat.lt_or_ge j (n - 1) with h2 | h2
    · rw [rotL_get t h2]
      have h3 := hidx j h2
      exact ordOk_ne h (by omega) (by omega) fun e => by
        have := mod_inj (by omega) h2 e
        omega
    · obtain rfl : j = n - 1 := by omega
      rw [rotL_last]
      exact ordOk_ne h (by omega) (by omega) (by omega)
/-- The last pays the same. -/
theorem rotL_same {n : Nat} {xs os : List Int} (g : Good n xs) (h : ordOk n os = true) (t : Nat) : (greedyL n xs ((rotL os n t).map Int.toNat)).getD (os.getD (n - 1) 0).toNat 0 = (greedyL n xs (os.map Int.toNat)).getD (os.getD (n - 1) 0).toNat 0 := by
  have hn := g.n1
  obtain ⟨hl, _⟩ := ordOk_facts h
  have e1 : (os.map Int.toNat).getD (n - 1) 0 = (os.getD (n - 1) 0).toNat := map_nat_get hl (by omega)
  have e2 : ((rotL os n t).map Int.toNat).getD (n - 1) 0 = (os.getD (n - 1) 0).toNat := by rw [map_nat_get (rotL_len hn t) (by omega), rotL_last]
  have := same_last g (ord_of_ok (rotL_ok hn h t)) (ord_of_ok h) (by rw [e1, e2])
  rw [e2] at this
  exact this
/-- the least, and the greatest, of the i-th numbers of the first lists. -/
def loT (T : List (List Int)) (i : Nat) : Nat → Int
  | 0 => (T.getD 0 []).getD i 0
  | k + 1 => min (loT T i k) ((T.getD k []).getD i 0)
def hiT (T : List (List Int)) (i : Nat) : Nat → Int
  | 0 => (T.getD 0 []).getD i 0
  | k + 1 => max (hiT T i k) ((T.getD k []).getD i 0)
theorem loT_le (T : List (List Int)) (i : Nat) : ∀ k j, j < k → loT T i k ≤ (T.getD j []).getD i 0
  | k + 1, j, h => by
    have e : loT T i (k + 1) = min (loT T i k) ((T.getD k []).getD i 0) := rfl
    rw [e]
    rcases Nat.lt_or_ge j k with h1 | h1
    · have := loT_le T i k j h1
      omega
    · obtain rfl : j = k := by omega
      omega
theorem hiT_ge (T : List (List Int)) (i : Nat) : ∀ k j, j < k → (T.getD j []).getD i 0 ≤ hiT T i k
  | k + 1, j, h => by
    have e : hiT T i (k + 1) = max (hiT T i k) ((T.getD k []).getD i 0) := rfl
    rw [e]
    rcases Nat.lt_or_ge j k with h1 | h1
    · have := hiT_ge T i k j h1
      omega
    · obtain rfl : j = k := by omega
      omega
theorem fair_in {n : Nat} {xs l : List Int} (g : Good n xs) (hl : l.length = n) (hf : isFair xs l = true) {i : Nat} (hi : i < n) : loT (crnL n xs) i (crnL n xs).length ≤ l.getD i 0 ∧ l.getD i 0 ≤ hiT (crnL n xs) i (crnL n xs).length := by
  obtain ⟨⟨a, ha, h1⟩, b, hb, h2⟩ := between g hl hf hi
  obtain ⟨j, hj, ej⟩ := List.getElem_of_mem ha
  obtain ⟨k, hk, ek⟩ := List.getElem_of_mem hb
  have h3 := loT_le (crnL n xs) i _ j hj
  have h4 := hiT_ge (crnL n xs) i _ k hk
  have e3 : (crnL n xs).getD j [] = a := by simp [List.getD_eq_getElem?_getD, hj, ej]
  have e4 : (crnL n xs).getD k [] = b := by simp [List.getD_eq_getElem?_getD, hk, ek]
  rw [e3] at h3
  rw [e4] at h4
  omega
/-- whether one of the first lists is l. -/
def inL (T : List (List Int)) (l : List Int) (k : Nat) : Bool := (T.take k).any fun y => decide (y = l)
theorem inL_succ {T : List (List Int)} {l : List Int} {k : Nat} (h : k < T.length) : inL T l (k + 1) = (inL T l k || decide (T.getD k [] = l)) := by
  unfold inL
  rw [List.take_succ_eq_append_getElem h, List.any_append]
  simp [List.getD_eq_getElem?_getD, h]
theorem inL_all {T : List (List Int)} {l : List Int} (h : l ∈ T) : inL T l T.length = true := by
  unfold inL
  rw [List.take_length, List.any_eq_true]
  exact ⟨l, h, by simp⟩
end Go.Proofs.Ytpehhbiodmgjeaa
