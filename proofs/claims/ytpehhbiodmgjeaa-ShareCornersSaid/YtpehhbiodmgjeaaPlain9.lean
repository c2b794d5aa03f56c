/- Plain laws: the proving sharing is fair, proves the least cost, and is lexicographically the least that does. No condition. -/
import Derived.Test.YtpehhbiodmgjeaaPlain8
namespace Go.Proofs.Ytpehhbiodmgjeaa

/-- The cost that the proving sharing is greedy for. -/
def hh (xs : List Int) (S a : Nat) : Int := inner xs (a &&& S) + (outer xs (S ||| a) - xs.getD S 0)
theorem and_part {x a b : Nat} (h : x &&& a = x) (hab : ∀ i, a.testBit i = true → b.testBit i = true) : x &&& b = x := by
  apply Nat.eq_of_testBit_eq
  intro i
  have h1 : (x &&& a).testBit i = x.testBit i := by rw [h]
  rw [Nat.testBit_and] at h1 ⊢
  have := hab i
  cases hx : x.testBit i <;> cases ha : a.testBit i <;> cases hb : b.testBit i <;> simp_all
theorem part_bit {x a : Nat} (h : x &&& a = x) (i : Nat) (hi : x.testBit i = true) : a.testBit i = true := by
  have h1 : (x &&& a).testBit i = x.testBit i := by rw [h]
  rw [Nat.testBit_and, hi] at h1
  simpa using h1
theorem part_of_bits {x a : Nat} (h : ∀ i, x.testBit i = true → a.testBit i = true) : x &&& a = x := by
  apply Nat.eq_of_testBit_eq
  intro i
  rw [Nat.testBit_and]
  have := h i
  cases hx : x.testBit i <;> simp_all
theorem whole_of_bits {x a : Nat} (h : ∀ i, a.testBit i = true → x.testBit i = true) : x &&& a = a := by
  rw [Nat.and_comm]; exact part_of_bits h
theorem tail_in : ∀ n, n ≤ 6 → ∀ i, i < n → ∀ S, S < 2 ^ n → (S.testBit i = true → S ||| tail n i = S ||| tail n (i + 1)) ∧ (S.testBit i = false → tail n i &&& S = tail n (i + 1) &&& S) := by decide +kernel

theorem all_only : ∀ n, n ≤ 6 → ∀ x, x < 2 ^ n → x &&& tail n 0 = tail n 0 → x = tail n 0 := by decide +kernel
theorem or_all : ∀ n, n ≤ 6 → ∀ S, S < 2 ^ n → S ||| tail n 0 = tail n 0 ∧ tail n 0 &&& S = S := by decide +kernel
def ndv (n S : Nat) : Nat := (2 ^ n - 1) ^^^ S
theorem compl_chk : ∀ n, n ≤ 6 → ∀ S, S < 2 ^ n → ndv n S < 2 ^ n ∧ S ||| ndv n S = tail n 0 ∧ S &&& ndv n S = 0 := by decide +kernel
theorem compl_bits (n : Nat) (hn : n ≤ 6) (S : Nat) (hS : S < 2 ^ n) : ∃ c, c < 2 ^ n ∧ S ||| c = tail n 0 ∧ S &&& c = 0 := ⟨ndv n S, compl_chk n hn S hS⟩
theorem proofL_len (n : Nat) (xs : List Int) : (proofL n xs).length = n := by simp [proofL]

section
variable {xs : List Int} {n : Nat}
theorem inner_sub (hs : Sub xs) (h0 : 0 < xs.length) (hl : xs.length = 2 ^ n) (a b : Nat) : inner xs (a ||| b) + inner xs (a &&& b) ≤ inner xs a + inner xs b := by
  obtain ⟨x, x1, x2, x3⟩ := inner_mem xs a h0
  obtain ⟨y, y1, y2, y3⟩ := inner_mem xs b h0
  have h1 := hs x y x1 y1
  have ho : x ||| y < xs.length := by rw [hl] at *; exact Nat.or_lt_two_pow x1 y1
  have ha : x &&& y < xs.length := Nat.lt_of_le_of_lt Nat.and_le_left x1
  have h2 := inner_le xs (a ||| b) (x ||| y) ho (part_of_bits fun i hi => by
    rw [Nat.testBit_or, Bool.or_eq_true] at hi ⊢
    rcases hi with hi | hi
    · exact .inl (part_bit x2 i hi)
    · exact .inr (part_bit y2 i hi))
  have h3 := inner_le xs (a &&& b) (x &&& y) ha (part_of_bits fun i hi => by
    rw [Nat.testBit_and, Bool.and_eq_true] at hi ⊢
    exact ⟨part_bit x2 i hi.1, part_bit y2 i hi.2⟩)
  omega
theorem outer_sub (hs : Sub xs) (hn : n ≤ 6) (hl : xs.length = 2 ^ n) (a b : Nat) (ha : a < 2 ^ n) (hb : b < 2 ^ n) : outer xs (a ||| b) + outer xs (a &&& b) ≤ outer xs a + outer xs b := by
  obtain ⟨x, x1, x2, x3⟩ := outer_mem xs n a hn hl ha
  obtain ⟨y, y1, y2, y3⟩ := outer_mem xs n b hn hl hb
  have h1 := hs x y x1 y1
  have ho : x ||| y < xs.length := by rw [hl] at *; exact Nat.or_lt_two_pow x1 y1
  have hc : x &&& y < xs.length := Nat.lt_of_le_of_lt Nat.and_le_left x1
  rw [Nat.and_comm] at x2 y2
  have h2 := outer_le xs (a ||| b) (x ||| y) ho (whole_of_bits fun i hi => by
    rw [Nat.testBit_or, Bool.or_eq_true] at hi ⊢
    rcases hi with hi | hi
    · exact .inl (part_bit x2 i hi)
    · exact .inr (part_bit y2 i hi))
  have h3 := outer_le xs (a &&& b) (x &&& y) hc (whole_of_bits fun i hi => by
    rw [Nat.testBit_and, Bool.and_eq_true] at hi ⊢
    exact ⟨part_bit x2 i hi.1, part_bit y2 i hi.2⟩)
  omega
theorem and_dist (a b S : Nat) : (a ||| b) &&& S = (a &&& S) ||| (b &&& S) ∧ (a &&& b) &&& S = (a &&& S) &&& (b &&& S) := by
  constructor <;> (apply Nat.eq_of_testBit_eq; intro i; simp only [Nat.testBit_and, Nat.testBit_or]; cases a.testBit i <;> cases b.testBit i <;> cases S.testBit i <;> rfl)
theorem or_dist (a b S : Nat) : S ||| (a ||| b) = (S ||| a) ||| (S ||| b) ∧ S ||| (a &&& b) = (S ||| a) &&& (S ||| b) := by
  constructor <;> (apply Nat.eq_of_testBit_eq; intro i; simp only [Nat.testBit_and, Nat.testBit_or]; cases a.testBit i <;> cases b.testBit i <;> cases S.testBit i <;> rfl)
theorem hh_sub (hs : Sub xs) (hn : n ≤ 6) (hl : xs.length = 2 ^ n) (S : Nat) (hS : S < 2 ^ n) : SubF n (hh xs S) := by
  intro a b ha hb
  have h0 : 0 < xs.length := by rw [hl]; exact Nat.pow_pos (by omega)
  have h1 := inner_sub hs h0 hl (a &&& S) (b &&& S)
  have h2 := outer_sub hs hn hl (S ||| a) (S ||| b) (Nat.or_lt_two_pow hS ha) (Nat.or_lt_two_pow hS hb)
  unfold hh
  rw [(and_dist a b S).1, (and_dist a b S).2, (or_dist a b S).1, (or_dist a b S).2]
  omega
theorem proofL_rev (hn : n ≤ 6) (hS : small xs < 2 ^ n) : IsRev n (hh xs (small xs)) (proofL n xs) := by
  refine ⟨by simp [proofL], fun i hi => ?_⟩
  have e : (proofL n xs).getD i 0 = proofAt n xs (small xs) i := by simp [proofL, List.getD_eq_getElem?_getD, hi]
  obtain ⟨t1, t2⟩ := tail_in n hn i hi (small xs) hS
  rw [e]
  unfold proofAt hh
  cases hb : (small xs).testBit i
  · rw [if_neg (by simp), t2 hb]
    show outer xs (small xs ||| tail n i) - outer xs (small xs ||| tail n (i + 1)) = _
    omega
  · rw [if_pos rfl, t1 hb]
    show inner xs (tail n i &&& small xs) - inner xs (tail n (i + 1) &&& small xs) = _
    omega

/-- What is known of a cost that has to be submodular. -/
structure Good (n : Nat) (xs : List Int) : Prop where
  n1 : 1 ≤ n
  n6 : n ≤ 6
  len : xs.length = 2 ^ n
  sub : Sub xs
  zero : xs.getD 0 0 = 0
  bnd : Bnd xs
theorem Good.of {m : Int} (h : asked m xs = 0) : ∃ k : Nat, m = k ∧ Good k xs := by
  obtain ⟨hok, hT⟩ := asked_zero h
  obtain ⟨k, e, h1, h6, hln, hbd, h0⟩ := costOk_facts hok
  exact ⟨k, e, h1, h6, hln, brkT_sub hT, h0, hbd⟩
variable (g : Good n xs)
include g
theorem Good.pos : 0 < xs.length := by rw [g.len]; exact Nat.pow_pos (by omega)
theorem Good.small_lt : small xs < 2 ^ n := by rw [← g.len]; exact Go.Proofs.Ytpehhbiodmgjeaa.small_lt xs g.pos
theorem Good.fS : xs.getD (small xs) 0 = low xs := small_low g.sub g.n6 g.len
theorem Good.low0 : low xs ≤ 0 := by rw [← g.zero]; exact low_le xs 0 g.pos
theorem Good.innerS : inner xs (small xs) = low xs := by
  obtain ⟨x, h1, h2, h3⟩ := inner_mem xs (small xs) g.pos
  have h4 := inner_le xs (small xs) (small xs) (by rw [g.len]; exact g.small_lt) (Nat.and_self _)
  have h5 := low_le xs x h1
  have := g.fS
  omega
theorem Good.inner0 : inner xs 0 = 0 := by
  obtain ⟨x, h1, h2, h3⟩ := inner_mem xs 0 g.pos
  rw [Nat.and_zero] at h2
  rw [h3, ← h2, g.zero]
theorem Good.outerS : outer xs (small xs) = low xs := by
  obtain ⟨x, h1, h2, h3⟩ := outer_mem xs n (small xs) g.n6 g.len g.small_lt
  have h4 := outer_le xs (small xs) (small xs) (by rw [g.len]; exact g.small_lt) (Nat.and_self _)
  have h5 := low_le xs x h1
  have := g.fS
  omega
theorem Good.outerV : outer xs (tail n 0) = xs.getD (tail n 0) 0 := by
  obtain ⟨x, h1, h2, h3⟩ := outer_mem xs n (tail n 0) g.n6 g.len (tail_lt n g.n6 0 (by omega))
  rw [h3, all_only n g.n6 x (by rw [← g.len]; exact h1) h2]
theorem Good.hh0 : hh xs (small xs) 0 = 0 := by
  unfold hh
  rw [Nat.zero_and, Nat.or_zero, g.inner0, g.outerS, g.fS]; omega
theorem Good.hhV : hh xs (small xs) (tail n 0) = xs.getD (tail n 0) 0 := by
  obtain ⟨h1, h2⟩ := or_all n g.n6 _ g.small_lt
  unfold hh
  rw [h1, h2, g.innerS, g.outerV, g.fS]; omega
theorem Good.hh_le (a : Nat) (ha : a < 2 ^ n) : hh xs (small xs) a ≤ xs.getD a 0 := by
  have hS := g.small_lt
  have h1 := inner_le xs (a &&& small xs) (a &&& small xs) (by rw [g.len]; exact and_lt_pow ha) (Nat.and_self _)
  have h2 := outer_le xs (small xs ||| a) (small xs ||| a) (by rw [g.len]; exact Nat.or_lt_two_pow hS ha) (Nat.and_self _)
  have h3 := g.sub a (small xs) (by rw [g.len]; exact ha) (by rw [g.len]; exact hS)
  rw [Nat.or_comm a] at h3
  unfold hh
  omega
theorem Good.proof_rev : IsRev n (hh xs (small xs)) (proofL n xs) := proofL_rev g.n6 g.small_lt
theorem Good.proof_le (a : Nat) (ha : a < 2 ^ n) : pay (proofL n xs) a ≤ hh xs (small xs) a := by
  have := rev_le g.n6 (hh_sub g.sub g.n6 g.len _ g.small_lt) g.proof_rev a ha
  rw [g.hh0] at this
  omega
theorem Good.proof_all : pay (proofL n xs) (tail n 0) = xs.getD (tail n 0) 0 := by
  rw [rev_all g.n6 g.proof_rev, g.hh0, g.hhV]; omega
theorem Good.tail0 : xs.length - 1 = tail n 0 := by rw [g.len]; rfl
theorem isFair_mk {l : List Int} (h1 : ∀ a, a < 2 ^ n → pay l a ≤ xs.getD a 0) (h2 : pay l (tail n 0) = xs.getD (tail n 0) 0) : isFair xs l = true := by
  unfold isFair
  rw [overI_miss (fun j hj => by have := h1 j (by rw [← g.len]; exact hj); omega), g.tail0, h2]
  simp
theorem isFair_facts {l : List Int} (h : isFair xs l = true) : (∀ a, a < 2 ^ n → pay l a ≤ xs.getD a 0) ∧ pay l (tail n 0) = xs.getD (tail n 0) 0 := by
  unfold isFair at h
  rw [g.tail0] at h
  simp only [Bool.and_eq_true, decide_eq_true_eq, beq_iff_eq] at h
  exact ⟨fun a ha => overI_neg h.1 a (by rw [g.len]; exact ha), h.2⟩
theorem Good.proof_fair : isFair xs (proofL n xs) = true :=
  isFair_mk g (fun a ha => Int.le_trans (g.proof_le a ha) (g.hh_le a ha)) g.proof_all
theorem Good.proof_sh : shOk n (proofL n xs) = true := by
  refine shOk_mk (proofL_len n xs) fun j hj => ?_
  have e : (proofL n xs).getD j 0 = proofAt n xs (small xs) j := by simp [proofL, List.getD_eq_getElem?_getD, hj]
  rw [e]
  have t1 := tail_lt n g.n6 j (by omega)
  have t2 := tail_lt n g.n6 (j + 1) (by omega)
  unfold proofAt
  split
  · have a1 := inner_in xs g.bnd ((2 ^ n - 2 ^ j) &&& small xs) g.pos
    have a2 := inner_in xs g.bnd ((2 ^ n - 2 ^ (j + 1)) &&& small xs) g.pos
    omega
  · have a1 := outer_in xs g.bnd n (small xs ||| (2 ^ n - 2 ^ j)) g.n6 g.len (Nat.or_lt_two_pow g.small_lt t1)
    have a2 := outer_in xs g.bnd n (small xs ||| (2 ^ n - 2 ^ (j + 1))) g.n6 g.len (Nat.or_lt_two_pow g.small_lt t2)
    omega
theorem Good.proof_S : pay (proofL n xs) (small xs) = low xs := by
  have h1 := Int.le_trans (g.proof_le _ g.small_lt) (g.hh_le _ g.small_lt)
  rw [g.fS] at h1
  obtain ⟨c, c1, c2, c3⟩ := compl_bits n g.n6 (small xs) g.small_lt
  have h2 := pay_mod (proofL n xs) (small xs) c
  rw [c2, c3, g.proof_all, pay_zero] at h2
  have h3 := g.proof_le c c1
  unfold hh at h3
  rw [Nat.and_comm, c3, c2, g.inner0, g.outerV, g.fS] at h3
  omega
theorem Good.proof_signs : ∀ i, i < n → ((small xs).testBit i = true → (proofL n xs).getD i 0 ≤ 0) ∧ ((small xs).testBit i = false → 0 ≤ (proofL n xs).getD i 0) := by
  intro i hi
  have e : (proofL n xs).getD i 0 = proofAt n xs (small xs) i := by simp [proofL, List.getD_eq_getElem?_getD, hi]
  rw [e]
  have tb : ∀ j, (tail n (i + 1)).testBit j = true → (tail n i).testBit j = true := fun j hj => by
    by_cases h7 : j < 7
    · rw [tail_bits n g.n6 _ (by omega) j h7] at hj
      rw [tail_bits n g.n6 _ (by omega) j h7]
      simp only [Bool.and_eq_true, decide_eq_true_eq] at hj ⊢
      omega
    · have := tail_lt n g.n6 (i + 1) (by omega)
      have h8 : tail n (i + 1) < 2 ^ j := Nat.lt_of_lt_of_le this (Nat.pow_le_pow_right (by omega) (by have := g.n6; omega))
      rw [Nat.testBit_lt_two_pow h8] at hj; cases hj
  unfold proofAt
  constructor
  · intro hb
    rw [if_pos hb]
    obtain ⟨x, x1, x2, x3⟩ := inner_mem xs ((2 ^ n - 2 ^ (i + 1)) &&& small xs) g.pos
    have := inner_le xs ((2 ^ n - 2 ^ i) &&& small xs) x x1 (and_part x2 fun j hj => by
      rw [Nat.testBit_and, Bool.and_eq_true] at hj ⊢
      exact ⟨tb j hj.1, hj.2⟩)
    omega
  · intro hb
    rw [hb, if_neg (by simp)]
    have t1 := tail_lt n g.n6 i (by omega)
    obtain ⟨x, x1, x2, x3⟩ := outer_mem xs n (small xs ||| (2 ^ n - 2 ^ i)) g.n6 g.len (Nat.or_lt_two_pow g.small_lt t1)
    have := outer_le xs (small xs ||| (2 ^ n - 2 ^ (i + 1))) x x1 (by
      rw [Nat.and_comm] at x2 ⊢
      exact part_of_bits fun j hj => part_bit x2 j (by
        rw [Nat.testBit_or, Bool.or_eq_true] at hj ⊢
        rcases hj with hj | hj
        · exact .inl hj
        · exact .inr (tb j hj)))
    omega
theorem Good.proof_below : belowS (proofL n xs) = low xs := by
  unfold belowS
  rw [below_of_signs _ (small xs) _ (by rw [(proofL_len n xs)]; exact g.proof_signs)]
  exact g.proof_S
theorem Good.below_any {l : List Int} (hf : isFair xs l = true) (a : Nat) (ha : a < 2 ^ n) : belowS l ≤ xs.getD a 0 :=
  Int.le_trans (below_le l a) ((isFair_facts g hf).1 a ha)
theorem Good.below_low {l : List Int} (hf : isFair xs l = true) : belowS l ≤ low xs := by
  rw [← g.fS]; exact g.below_any hf _ g.small_lt
/-- A fair sharing that proves the least cost is nowhere below the proving one. -/
theorem Good.proof_lex {l : List Int} (hl : l.length = n) (hf : isFair xs l = true) (hb : belowS l = low xs) : bfr l (proofL n xs) = false := by
  obtain ⟨f1, f2⟩ := isFair_facts g hf
  have hS := g.small_lt
  have hSp : pay l (small xs) = low xs := by
    have h1 := f1 _ hS
    have h2 := below_le l (small xs)
    rw [g.fS] at h1
    omega
  have sg := below_tight l (small xs) l.length (by show pay l (small xs) ≤ belowS l; omega)
  rw [hl] at sg
  have hle : ∀ a, a < 2 ^ n → pay l a ≤ hh xs (small xs) a := by
    intro a ha
    have m := pay_mod l a (small xs)
    have i1 : pay l (a &&& small xs) ≤ inner xs (a &&& small xs) := by
      obtain ⟨x, x1, x2, x3⟩ := inner_mem xs (a &&& small xs) g.pos
      have h1 := f1 x (by rw [← g.len]; exact x1)
      have h2 : pay l (a &&& small xs) ≤ pay l x := payTo_mono l x _ _ (fun i hi => part_bit x2 i hi) (fun i hi h3 _ => by
        rw [hl] at hi
        rw [Nat.testBit_and, Bool.and_eq_true] at h3
        exact (sg i hi).1 h3.2)
      omega
    have i2 : pay l (a ||| small xs) ≤ outer xs (small xs ||| a) := by
      rw [Nat.or_comm]
      obtain ⟨x, x1, x2, x3⟩ := outer_mem xs n (small xs ||| a) g.n6 g.len (Nat.or_lt_two_pow hS ha)
      have h1 := f1 x (by rw [← g.len]; exact x1)
      rw [Nat.and_comm] at x2
      have h2 : pay l (small xs ||| a) ≤ pay l x := payTo_anti l _ x _ (fun i hi => part_bit x2 i hi) (fun i hi _ h4 => by
        rw [hl] at hi
        rw [Nat.testBit_or, Bool.or_eq_false_iff] at h4
        exact (sg i hi).2 h4.1)
      omega
    have := g.fS
    unfold hh
    omega
  refine bfr_false fun i hi _ hs => ?_
  rw [hl] at hi
  exact rev_lex g.n6 g.proof_rev hl hle (by rw [g.hhV]; exact f2) i hi hs
end
end Go.Proofs.Ytpehhbiodmgjeaa
