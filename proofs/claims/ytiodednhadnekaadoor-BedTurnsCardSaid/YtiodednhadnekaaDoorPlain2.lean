import Derived.Test.YtiodednhadnekaaDoorPlain1
namespace Go.Proofs.YtiodednhadnekaaDoor
/-! ### ors, and the crops that a row or a column has, as bits -/
def orN (f : Nat → Nat) : Nat → Nat
  | 0 => 0
  | k + 1 => orN f k ||| f k
theorem bit_orN (f : Nat → Nat) (x : Nat) : ∀ k, (orN f k).testBit x = true ↔ ∃ i, i < k ∧ (f i).testBit x = true
  | 0 => by simp [orN]
  | k + 1 => by
    rw [orN, Nat.testBit_or, Bool.or_eq_true, bit_orN f x k]
    constructor
    · rintro (⟨i, hi, h⟩ | h)
      · exact ⟨i, by omega, h⟩
      · exact ⟨k, by omega, h⟩
    · rintro ⟨i, hi, h⟩
      rcases Nat.lt_or_ge i k with h1 | h1
      · exact .inl ⟨i, h1, h⟩
      · obtain rfl : i = k := by omega
        exact .inr h
theorem orN_lt {f : Nat → Nat} {N : Nat} : ∀ {k : Nat}, (∀ i, i < k → f i < 2 ^ N) → orN f k < 2 ^ N
  | 0, _ => Nat.two_pow_pos N
  | _ + 1, h => Nat.or_lt_two_pow (orN_lt fun i hi => h i (by omega)) (h _ (by omega))
theorem orN_congr {f g : Nat → Nat} : ∀ {k : Nat}, (∀ i, i < k → f i = g i) → orN f k = orN g k
  | 0, _ => rfl
  | k + 1, h => by rw [orN, orN, orN_congr fun i hi => h i (by omega), h k (by omega)]
def bit1 (x : Int) : Nat := if 0 ≤ x then 2 ^ x.toNat else 0
theorem bit_bit1 (x : Int) (j : Nat) : (bit1 x).testBit j = true ↔ x = j := by
  unfold bit1
  split
  · rw [Nat.testBit_two_pow, decide_eq_true_eq]; omega
  · simp; omega
theorem bit1_lt {x : Int} {n : Nat} (h : x < n) : bit1 x < 2 ^ n := by
  unfold bit1
  split
  · exact Nat.pow_lt_pow_right (by decide) (by omega)
  · exact Nat.two_pow_pos n
def rowM (n : Nat) (b : List (List Int)) (r : Nat) : Nat := orN (fun c => bit1 (gAt b r c)) n
def colM (n : Nat) (b : List (List Int)) (c : Nat) : Nat := orN (fun r => bit1 (gAt b r c)) n
theorem bit_rowM {n : Nat} {b : List (List Int)} {r x : Nat} : (rowM n b r).testBit x = true ↔ ∃ c, c < n ∧ gAt b r c = x := by
  unfold rowM; rw [bit_orN]; simp only [bit_bit1]
theorem bit_colM {n : Nat} {b : List (List Int)} {c x : Nat} : (colM n b c).testBit x = true ↔ ∃ r, r < n ∧ gAt b r c = x := by
  unfold colM; rw [bit_orN]; simp only [bit_bit1]
theorem rowM_lt {n : Nat} {b : List (List Int)} (h : IsBed n b) {r : Nat} (hr : r < n) : rowM n b r < 2 ^ n := orN_lt fun c hc => bit1_lt (h.lo r c hr hc).2
theorem colM_lt {n : Nat} {b : List (List Int)} (h : IsBed n b) {c : Nat} (hc : c < n) : colM n b c < 2 ^ n := orN_lt fun r hr => bit1_lt (h.lo r c hr hc).2
/-- What is in a and not in b. -/
def nd (a b : Nat) : Nat := a ^^^ (a &&& b)
theorem bit_nd (a b i : Nat) : (nd a b).testBit i = (a.testBit i && !b.testBit i) := by
  unfold nd
  rw [Nat.testBit_xor, Nat.testBit_and]
  cases a.testBit i <;> cases b.testBit i <;> rfl
theorem nd_le (a b : Nat) : nd a b ≤ a := by
  have : nd a b = nd a b &&& a := Nat.eq_of_testBit_eq fun i => by
    rw [Nat.testBit_and, bit_nd]; cases a.testBit i <;> cases b.testBit i <;> rfl
  rw [this]; exact Nat.and_le_right
def openM (n : Nat) (b : List (List Int)) (r c : Nat) : Nat := nd (nd (2 ^ n - 1) (rowM n b r)) (colM n b c)
theorem openM_lt (n : Nat) (b : List (List Int)) (r c : Nat) : openM n b r c < 2 ^ n := by
  have h1 := nd_le (nd (2 ^ n - 1) (rowM n b r)) (colM n b c)
  have h2 := nd_le (2 ^ n - 1) (rowM n b r)
  have h3 := Nat.two_pow_pos n
  unfold openM
  omega
def freeB (n : Nat) (b : List (List Int)) (r c : Nat) (x : Nat) : Bool := (List.range n).all fun i => decide (gAt b r i ≠ x) && decide (gAt b i c ≠ x)
theorem freeB_iff {n : Nat} {b : List (List Int)} {r c x : Nat} : freeB n b r c x = true ↔ freeP n b r c x := by
  unfold freeB freeP
  simp only [List.all_eq_true, List.mem_range, Bool.and_eq_true, decide_eq_true_eq]
theorem bit_openM (n : Nat) (b : List (List Int)) (r c x : Nat) : (openM n b r c).testBit x = (decide (x < n) && freeB n b r c x) := by
  unfold openM
  rw [bit_nd, bit_nd, Nat.testBit_two_pow_sub_one, Bool.eq_iff_iff]
  simp only [Bool.and_eq_true, Bool.not_eq_true', Bool.eq_false_iff, ne_eq, bit_rowM, bit_colM, freeB_iff, freeP, decide_eq_true_eq]
  constructor
  · rintro ⟨⟨h1, h2⟩, h3⟩
    exact ⟨h1, fun i hi => ⟨fun e => h2 ⟨i, hi, e⟩, fun e => h3 ⟨i, hi, e⟩⟩⟩
  · rintro ⟨h1, h2⟩
    exact ⟨⟨h1, fun ⟨i, hi, e⟩ => (h2 i hi).1 e⟩, fun ⟨i, hi, e⟩ => (h2 i hi).2 e⟩
/-- The bits of a number, from the lowest on. -/
def bitsOf (m : Nat) : List Nat := (List.range 7).filter m.testBit
def crops (n : Nat) (b : List (List Int)) (r c : Nat) : List Nat := (List.range n).filter (freeB n b r c)
theorem filter_upto {n k : Nat} (h : n ≤ k) (p : Nat → Bool) : ((List.range k).filter fun x => decide (x < n) && p x) = (List.range n).filter p := by
  induction k with
  | zero => obtain rfl : n = 0 := by omega
            rfl
  | succ k ih =>
    rcases Nat.lt_or_ge k n with h1 | h1
    · obtain rfl : n = k + 1 := by omega
      refine List.filter_congr fun x hx => ?_
      rw [List.mem_range] at hx
      simp [hx]
    · rw [List.range_succ, List.filter_append, ih h1]
      have : ¬ k < n := by omega
      simp [this]
theorem bits_open {n : Nat} (hn : n ≤ 7) (b : List (List Int)) (r c : Nat) : bitsOf (openM n b r c) = crops n b r c := by
  unfold bitsOf crops
  rw [← filter_upto hn (freeB n b r c)]
  exact List.filter_congr fun x _ => bit_openM n b r c x
def tzN (m : Nat) : Nat := ((List.range 7).find? m.testBit).getD 0
def popN (m : Nat) : Nat := (bitsOf m).length
theorem bits_step : ∀ m, m < 128 → 0 < m → bitsOf m = tzN m :: bitsOf (m &&& (m - 1)) := by decide +kernel
theorem bits_zero : bitsOf 0 = [] := by decide
theorem bits_none : ∀ m, m < 128 → bitsOf m = [] → m = 0 := by decide +kernel
theorem low_bit : ∀ m, m < 128 → 0 < m → 2 ^ tzN m = nd m (m &&& (m - 1)) ∧ tzN m < 7 ∧ m &&& (m - 1) < m := by decide +kernel
theorem mem_crops {n : Nat} {b : List (List Int)} {r c x : Nat} : x ∈ crops n b r c ↔ x < n ∧ freeP n b r c x := by
  unfold crops; rw [List.mem_filter, List.mem_range, freeB_iff]

/-! ### putting a crop, and taking it away -/
theorem rowM_put {n : Nat} {b : List (List Int)} (h : sqShape n b) {r c : Nat} (hr : r < n) (hc : c < n) (h0 : gAt b r c < 0) (x : Nat) (i : Nat) : rowM n (gset b r c x) i = if i = r then rowM n b r ||| 2 ^ x else rowM n b i := by
  split
  · rename_i e
    subst e
    apply Nat.eq_of_testBit_eq
    intro j
    rw [Nat.testBit_or, Bool.eq_iff_iff, Bool.or_eq_true, bit_rowM, bit_rowM, Nat.testBit_two_pow, decide_eq_true_eq]
    constructor
    · rintro ⟨d, hd, e⟩
      rw [gAt_gset h hr hc] at e
      split at e
      · right; omega
      · left; exact ⟨d, hd, e⟩
    · rintro (⟨d, hd, e⟩ | e)
      · refine ⟨d, hd, ?_⟩
        rw [gAt_gset h hr hc, if_neg (fun e2 => by obtain ⟨-, rfl⟩ := e2; omega)]
        exact e
      · exact ⟨c, hc, by rw [gAt_gset h hr hc, if_pos ⟨rfl, rfl⟩]; omega⟩
  · rename_i e
    exact orN_congr fun d hd => by rw [gAt_gset h hr hc, if_neg (fun e2 => e e2.1)]
theorem colM_put {n : Nat} {b : List (List Int)} (h : sqShape n b) {r c : Nat} (hr : r < n) (hc : c < n) (h0 : gAt b r c < 0) (x : Nat) (i : Nat) : colM n (gset b r c x) i = if i = c then colM n b c ||| 2 ^ x else colM n b i := by
  split
  · rename_i e
    subst e
    apply Nat.eq_of_testBit_eq
    intro j
    rw [Nat.testBit_or, Bool.eq_iff_iff, Bool.or_eq_true, bit_colM, bit_colM, Nat.testBit_two_pow, decide_eq_true_eq]
    constructor
    · rintro ⟨d, hd, e⟩
      rw [gAt_gset h hr hc] at e
      split at e
      · right; omega
      · left; exact ⟨d, hd, e⟩
    · rintro (⟨d, hd, e⟩ | e)
      · refine ⟨d, hd, ?_⟩
        rw [gAt_gset h hr hc, if_neg (fun e2 => by obtain ⟨rfl, -⟩ := e2; omega)]
        exact e
      · exact ⟨r, hr, by rw [gAt_gset h hr hc, if_pos ⟨rfl, rfl⟩]; omega⟩
  · rename_i e
    exact orN_congr fun d hd => by rw [gAt_gset h hr hc, if_neg (fun e2 => e e2.2)]
theorem nd_or {a x : Nat} (h : a.testBit x = false) : nd (a ||| 2 ^ x) (2 ^ x) = a := by
  apply Nat.eq_of_testBit_eq
  intro j
  rw [bit_nd, Nat.testBit_or, Nat.testBit_two_pow]
  by_cases e : x = j
  · subst e; simp [h]
  · simp [e]
theorem rowM_take {n : Nat} {b : List (List Int)} {r c x : Nat} (hf : freeP n b r c x) : (rowM n b r).testBit x = false := by
  rw [Bool.eq_false_iff, ne_eq, bit_rowM]
  rintro ⟨i, hi, e⟩
  exact (hf i hi).1 e
theorem colM_take {n : Nat} {b : List (List Int)} {r c x : Nat} (hf : freeP n b r c x) : (colM n b c).testBit x = false := by
  rw [Bool.eq_false_iff, ne_eq, bit_colM]
  rintro ⟨i, hi, e⟩
  exact (hf i hi).2 e

/-! ### a row or column that has no place left for a crop -/
def homeR (n : Nat) (b : List (List Int)) (i k : Nat) : Nat := rowM n b i ||| orN (fun k => if gAt b i k < 0 then openM n b i k else 0) k
def homeC (n : Nat) (b : List (List Int)) (i k : Nat) : Nat := colM n b i ||| orN (fun k => if gAt b k i < 0 then openM n b k i else 0) k
def homeless (n : Nat) (b : List (List Int)) : Bool := (List.range n).any fun i => decide (homeR n b i n ≠ 2 ^ n - 1) || decide (homeC n b i n ≠ 2 ^ n - 1)
theorem pigeon (n : Nat) (l : List Nat) (hd : l.Nodup) (h : ∀ x ∈ l, x < n) : l.length ≤ n := by
  induction n generalizing l with
  | zero =>
    match l with
    | [] => simp
    | x :: l => exact absurd (h x (by simp)) (by omega)
  | succ n ih =>
    have h1 := ih (l.filter (· != n)) (hd.filter _) (fun x hx => by
      rw [List.mem_filter] at hx
      have := h x hx.1
      have := hx.2
      simp at this
      omega)
    have h2 : l.length ≤ (l.filter (· != n)).length + 1 := by
      clear ih h h1
      induction l with
      | nil => simp
      | cons x l ih =>
        obtain ⟨h3, h4⟩ := List.nodup_cons.1 hd
        have := ih h4
        by_cases e : x = n
        · subst e
          have : l.filter (· != x) = l := List.filter_eq_self.2 fun y hy => by simp; rintro rfl; exact h3 hy
          simp [this]
        · simp [e]; omega
    omega
theorem onto_of_inj {n : Nat} {f : Nat → Nat} (h1 : ∀ i, i < n → f i < n) (h2 : ∀ i j, i < n → j < n → i ≠ j → f i ≠ f j) (x : Nat) (hx : x < n) : ∃ i, i < n ∧ f i = x := by
  rcases Classical.em (∃ i, i < n ∧ f i = x) with h | h
  · exact h
  · exfalso
    have := pigeon n (x :: (List.range n).map f) (List.nodup_cons.2 ⟨fun hm => by
      obtain ⟨i, hi, e⟩ := List.mem_map.1 hm
      exact h ⟨i, List.mem_range.1 hi, e⟩, by
      rw [List.nodup_iff_pairwise_ne, List.pairwise_map]
      exact (List.nodup_iff_pairwise_ne.1 List.nodup_range).imp_of_mem fun ha hb hab => h2 _ _ (List.mem_range.1 ha) (List.mem_range.1 hb) hab⟩) (fun y hy => by
      rcases List.mem_cons.1 hy with rfl | hy
      · exact hx
      · obtain ⟨i, hi, rfl⟩ := List.mem_map.1 hy
        exact h1 i (List.mem_range.1 hi))
    simp at this
    omega
theorem IsFull.row_has {n : Nat} {s : List (List Int)} (h : IsFull n s) {r : Nat} (hr : r < n) (x : Nat) (hx : x < n) : ∃ c, c < n ∧ gAt s r c = x := by
  obtain ⟨c, hc, e⟩ := onto_of_inj (n := n) (f := fun c => (gAt s r c).toNat) (fun c hc => by have := h.lo r c hr hc; omega) (fun c d hc hd hne => by
    have a1 := h.lo r c hr hc
    have a2 := h.lo r d hr hd
    have := h.once.1 r c d hr hc hd hne a1.1
    omega) x hx
  exact ⟨c, hc, by have := h.lo r c hr hc; omega⟩
theorem IsFull.col_has {n : Nat} {s : List (List Int)} (h : IsFull n s) {c : Nat} (hc : c < n) (x : Nat) (hx : x < n) : ∃ r, r < n ∧ gAt s r c = x := by
  obtain ⟨r, hr, e⟩ := onto_of_inj (n := n) (f := fun r => (gAt s r c).toNat) (fun r hr => by have := h.lo r c hr hc; omega) (fun r t hr ht hne => by
    have a1 := h.lo r c hr hc
    have a2 := h.lo t c ht hc
    have := h.once.2 r t c hr ht hc hne a1.1
    omega) x hx
  exact ⟨r, hr, by have := h.lo r c hr hc; omega⟩
theorem ext_free {n : Nat} {b s : List (List Int)} (hs : IsFull n s) (he : ExtP n b s) {r c x : Nat} (hr : r < n) (hc : c < n) (h0 : gAt b r c < 0) (hx : gAt s r c = x) : freeP n b r c x := by
  intro i hi
  constructor
  · intro e
    have hic : i ≠ c := by rintro rfl; omega
    exact hs.once.1 r c i hr hc hi (fun e => hic e.symm) (by omega) (by rw [he r i hr hi (by omega)]; omega)
  · intro e
    have hir : i ≠ r := by rintro rfl; omega
    exact hs.once.2 r i c hr hi hc (fun e => hir e.symm) (by omega) (by rw [he i c hi hc (by omega)]; omega)
theorem all_bits {m n : Nat} (h1 : m < 2 ^ n) (h2 : ∀ x, x < n → m.testBit x = true) : m = 2 ^ n - 1 := by
  apply Nat.eq_of_testBit_eq
  intro j
  rw [Nat.testBit_two_pow_sub_one]
  by_cases e : j < n
  · rw [h2 j e]; simp [e]
  · rw [Nat.testBit_lt_two_pow (Nat.lt_of_lt_of_le h1 (Nat.pow_le_pow_right (by decide) (by omega)))]; simp [e]
theorem homeR_lt {n : Nat} {b : List (List Int)} (h : IsBed n b) {i : Nat} (hi : i < n) (k : Nat) : homeR n b i k < 2 ^ n :=
  Nat.or_lt_two_pow (rowM_lt h hi) (orN_lt fun j _ => by split; exact openM_lt _ _ _ _; exact Nat.two_pow_pos n)
theorem homeC_lt {n : Nat} {b : List (List Int)} (h : IsBed n b) {i : Nat} (hi : i < n) (k : Nat) : homeC n b i k < 2 ^ n :=
  Nat.or_lt_two_pow (colM_lt h hi) (orN_lt fun j _ => by split; exact openM_lt _ _ _ _; exact Nat.two_pow_pos n)
theorem cnt_homeless {n : Nat} {b : List (List Int)} (h : IsBed n b) (hh : homeless n b = true) : cnt n b = 0 := by
  rcases Nat.eq_zero_or_pos (cnt n b) with e | hp
  · exact e
  · exfalso
    obtain ⟨s, hs, he⟩ := cnt_pos.1 hp
    unfold homeless at hh
    rw [List.any_eq_true] at hh
    obtain ⟨i, hi, hh⟩ := hh
    rw [List.mem_range] at hi
    simp only [Bool.or_eq_true, decide_eq_true_eq] at hh
    rcases hh with hh | hh
    · apply hh
      refine all_bits (homeR_lt h hi _) fun x hx => ?_
      obtain ⟨c, hc, e⟩ := hs.row_has hi x hx
      unfold homeR
      rw [Nat.testBit_or, Bool.or_eq_true, bit_rowM, bit_orN]
      by_cases h0 : gAt b i c < 0
      · right
        refine ⟨c, hc, ?_⟩
        rw [if_pos h0, bit_openM, Bool.and_eq_true, decide_eq_true_eq, freeB_iff]
        exact ⟨hx, ext_free hs he hi hc h0 e⟩
      · left
        exact ⟨c, hc, by rw [← he i c hi hc (by omega)]; exact e⟩
    · apply hh
      refine all_bits (homeC_lt h hi _) fun x hx => ?_
      obtain ⟨r, hr, e⟩ := hs.col_has hi x hx
      unfold homeC
      rw [Nat.testBit_or, Bool.or_eq_true, bit_colM, bit_orN]
      by_cases h0 : gAt b r i < 0
      · right
        refine ⟨r, hr, ?_⟩
        rw [if_pos h0, bit_openM, Bool.and_eq_true, decide_eq_true_eq, freeB_iff]
        exact ⟨hx, ext_free hs he hr hi h0 e⟩
      · left
        exact ⟨r, hr, by rw [← he r i hr hi (by omega)]; exact e⟩
end Go.Proofs.YtiodednhadnekaaDoor
