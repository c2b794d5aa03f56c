/- Plain laws: sharings: what groups pay, the first group that pays too much, what is paid below 0. No condition. Plain laws: what groups pay is modular; the greedy sharing of a submodular cost is fair, and lexicographically least. No condition. Plain laws: the proving sharing is fair, proves the least cost, and is lexicographically the least that does. No condition. Plain laws: gardeners sorted by weight, by insertion; the dearest sharing. No condition. Plain laws: the greedy sharing of any order is fair, and each group that came first pays just its cost. No condition. Plain laws: the levels of weights; the dearest sharing is the dearest fair one, and the lexicographically least of these. No condition. -/
import Derived.Test.YtmepndnckcpgjaaGreatPlain3
import Derived.Test.YtmepndnckcpgjaaGreatPlain5
import Derived.Test.YtmepndnckcpgjaaGreatPlain4
namespace Go.Proofs.YtmepndnckcpgjaaGreat

def outS (x : Int) : Bool := decide (x < -6000000) || decide (6000000 < x)
def shOk (n : Nat) (l : List Int) : Bool := decide (l.length = n) && !l.any outS
theorem shOk_facts {n : Nat} {l : List Int} (h : shOk n l = true) : l.length = n ∧ ∀ j, -6000000 ≤ l.getD j 0 ∧ l.getD j 0 ≤ 6000000 := by
  unfold shOk at h
  simp only [Bool.and_eq_true, decide_eq_true_eq, Bool.not_eq_true', List.any_eq_false] at h
  refine ⟨h.1, fun j => ?_⟩
  by_cases hj : j < l.length
  · have := h.2 _ (List.getElem_mem hj)
    simp only [outS, Bool.or_eq_true, decide_eq_true_eq, not_or] at this
    simp only [List.getD_eq_getElem?_getD, List.getElem?_eq_getElem hj, Option.getD_some]
    omega
  · simp only [List.getD_eq_getElem?_getD, List.getElem?_eq_none (by omega : l.length ≤ j), Option.getD_none]
    omega
theorem shOk_mk {n : Nat} {l : List Int} (hl : l.length = n) (h : ∀ j, j < n → -6000000 ≤ l.getD j 0 ∧ l.getD j 0 ≤ 6000000) : shOk n l = true := by
  unfold shOk
  simp only [Bool.and_eq_true, decide_eq_true_eq, Bool.not_eq_true', List.any_eq_false]
  refine ⟨hl, fun x hx => ?_⟩
  obtain ⟨j, hj, rfl⟩ := List.getElem_of_mem hx
  have := h j (by omega)
  simp only [List.getD_eq_getElem?_getD, List.getElem?_eq_getElem hj, Option.getD_some] at this
  simp only [outS, Bool.or_eq_true, decide_eq_true_eq, not_or]
  omega
theorem shOk_bad {n : Nat} {l : List Int} (j : Nat) (hj : j < l.length) (h : outS (l.getD j 0) = true) : shOk n l = false := by
  unfold shOk
  have : l.any outS = true := by
    rw [List.any_eq_true]
    refine ⟨l[j], List.getElem_mem hj, ?_⟩
    simpa [List.getD_eq_getElem?_getD, hj] using h
  rw [this]; simp

/-- What the first k of a group pay. -/
def payTo (l : List Int) (g : Nat) : Nat → Int
  | 0 => 0
  | k + 1 => payTo l g k + if g.testBit k then l.getD k 0 else 0
def pay (l : List Int) (g : Nat) : Int := payTo l g l.length
theorem payTo_in (l : List Int) (g k : Nat) (h : ∀ j, -6000000 ≤ l.getD j 0 ∧ l.getD j 0 ≤ 6000000) : -6000000 * (k : Int) ≤ payTo l g k ∧ payTo l g k ≤ 6000000 * (k : Int) := by
  induction k with
  | zero => simp [payTo]
  | succ k ih =>
    have h1 := h k
    have e : payTo l g (k + 1) = payTo l g k + if g.testBit k then l.getD k 0 else 0 := rfl
    rw [e]
    split <;> omega
def belowTo (l : List Int) : Nat → Int
  | 0 => 0
  | k + 1 => belowTo l k + mn (l.getD k 0) 0
def belowS (l : List Int) : Int := belowTo l l.length
theorem mn_comm (a b : Int) : mn a b = mn b a := by unfold mn; split <;> split <;> omega
theorem belowTo_in (l : List Int) (k : Nat) (h : ∀ j, -6000000 ≤ l.getD j 0 ∧ l.getD j 0 ≤ 6000000) : -6000000 * (k : Int) ≤ belowTo l k ∧ belowTo l k ≤ 0 := by
  induction k with
  | zero => simp [belowTo]
  | succ k ih =>
    have h1 := h k
    have e : belowTo l (k + 1) = belowTo l k + mn (l.getD k 0) 0 := rfl
    rw [e]
    unfold mn
    split <;> omega
/-- The first group that pays more than its cost; below 0: there is none. -/
def overO (xs l : List Int) : Option Nat := (List.range xs.length).find? fun g => decide (xs.getD g 0 < pay l g)
def overI (xs l : List Int) : Int := match overO xs l with | some g => (g : Int) | none => -1
theorem overI_hit {xs l : List Int} {g : Nat} (hg : g < xs.length) (h : xs.getD g 0 < pay l g) (hb : ∀ j, j < g → ¬ xs.getD j 0 < pay l j) : overI xs l = g := by
  have : overO xs l = some g := by
    unfold overO
    rw [range_split xs.length g hg, find_append_none]
    · rw [List.find?_cons_of_pos (by simpa using h)]
    · intro x hx
      rw [List.mem_range] at hx
      exact decide_eq_false (hb x hx)
  unfold overI; rw [this]
theorem overI_miss {xs l : List Int} (hb : ∀ j, j < xs.length → ¬ xs.getD j 0 < pay l j) : overI xs l = -1 := by
  have : overO xs l = none := by
    unfold overO
    rw [List.find?_eq_none]
    intro x hx
    rw [List.mem_range] at hx
    simpa using hb x hx
  unfold overI; rw [this]
theorem overI_neg {xs l : List Int} (h : overI xs l < 0) (g : Nat) (hg : g < xs.length) : pay l g ≤ xs.getD g 0 := by
  unfold overI at h
  cases ho : overO xs l with
  | some g' => rw [ho] at h; simp at h; omega
  | none =>
    unfold overO at ho
    rw [List.find?_eq_none] at ho
    have := ho g (List.mem_range.2 hg)
    simp only [decide_eq_true_eq] at this
    omega
theorem overI_cases (xs l : List Int) : overI xs l = -1 ∨ ∃ g : Nat, overI xs l = g ∧ g < xs.length ∧ xs.getD g 0 < pay l g := by
  unfold overI
  cases ho : overO xs l with
  | none => exact .inl rfl
  | some g =>
    refine .inr ⟨g, rfl, ?_⟩
    unfold overO at ho
    have h1 := List.mem_of_find?_eq_some ho
    have h2 := List.find?_some ho
    rw [List.mem_range] at h1
    exact ⟨h1, by simpa using h2⟩
/-- All pay what is to be paid, and no group pays more than its cost. -/
def isFair (xs l : List Int) : Bool := decide (overI xs l < 0) && (pay l (xs.length - 1) == xs.getD (xs.length - 1) 0)
def fairErr (n : Int) (xs l : List Int) : Int := if costOk n xs && shOk n.toNat l then 0 else 2
def fairG (n : Int) (xs l : List Int) : Int := if costOk n xs && shOk n.toNat l then (if overI xs l < 0 then (xs.length : Int) - 1 else overI xs l) else 0
def fairB (n : Int) (xs l : List Int) : Bool := costOk n xs && shOk n.toNat l && isFair xs l
def provesErr (n : Int) (xs l : List Int) : Int := if asked n xs = 0 then (if shOk n.toNat l then 0 else 2) else asked n xs
def provesB (n : Int) (xs l : List Int) : Bool := decide (asked n xs = 0) && shOk n.toNat l && isFair xs l
def provesS (n : Int) (xs l : List Int) : Int := if provesB n xs l then belowS l else 0
end Go.Proofs.YtmepndnckcpgjaaGreat

namespace Go.Proofs.YtmepndnckcpgjaaGreat

theorem payTo_mod (l : List Int) (a b k : Nat) : payTo l (a ||| b) k + payTo l (a &&& b) k = payTo l a k + payTo l b k := by
  induction k with
  | zero => rfl
  | succ k ih =>
    simp only [payTo, Nat.testBit_or, Nat.testBit_and]
    cases a.testBit k <;> cases b.testBit k <;> simp <;> omega
theorem pay_mod (l : List Int) (a b : Nat) : pay l (a ||| b) + pay l (a &&& b) = pay l a + pay l b := payTo_mod l a b _
theorem payTo_zero (l : List Int) (k : Nat) : payTo l 0 k = 0 := by
  induction k with
  | zero => rfl
  | succ k ih => simp [payTo, ih]
theorem pay_zero (l : List Int) : pay l 0 = 0 := payTo_zero l _
theorem belowTo_le (l : List Int) (a k : Nat) : belowTo l k ≤ payTo l a k := by
  induction k with
  | zero => exact Int.le_refl _
  | succ k ih =>
    have e1 : belowTo l (k + 1) = belowTo l k + mn (l.getD k 0) 0 := rfl
    have e2 : payTo l a (k + 1) = payTo l a k + if a.testBit k then l.getD k 0 else 0 := rfl
    have h1 := mn_le_left (l.getD k 0) 0
    have h2 := mn_le_right (l.getD k 0) 0
    rw [e1, e2]
    split <;> omega
/-- What is paid below 0 is at most what any group pays. -/
theorem below_le (l : List Int) (a : Nat) : belowS l ≤ pay l a := belowTo_le l a _
/-- Where it is just what S pays, S pays at most 0 each and the others at least 0. -/
theorem below_tight (l : List Int) (S k : Nat) (h : payTo l S k ≤ belowTo l k) : ∀ i, i < k → (S.testBit i = true → l.getD i 0 ≤ 0) ∧ (S.testBit i = false → 0 ≤ l.getD i 0) := by
  induction k with
  | zero => intro i hi; omega
  | succ k ih =>
    have e1 : belowTo l (k + 1) = belowTo l k + mn (l.getD k 0) 0 := rfl
    have e2 : payTo l S (k + 1) = payTo l S k + if S.testBit k then l.getD k 0 else 0 := rfl
    have h0 := belowTo_le l S k
    have h1 := mn_le_left (l.getD k 0) 0
    have h2 := mn_le_right (l.getD k 0) 0
    have h3 := mn_cases (l.getD k 0) 0
    rw [e1, e2] at h
    intro i hi
    by_cases hik : i = k
    · subst hik
      constructor
      · intro hb
        rw [if_pos hb] at h
        omega
      · intro hb
        rw [hb, if_neg (by simp)] at h
        omega
    · refine ih ?_ i (by omega)
      cases hb : S.testBit k
      · rw [hb, if_neg (by simp)] at h; omega
      · rw [hb, if_pos rfl] at h; omega
theorem below_of_signs (l : List Int) (S k : Nat) (h : ∀ i, i < k → (S.testBit i = true → l.getD i 0 ≤ 0) ∧ (S.testBit i = false → 0 ≤ l.getD i 0)) : belowTo l k = payTo l S k := by
  induction k with
  | zero => rfl
  | succ k ih =>
    have e1 : belowTo l (k + 1) = belowTo l k + mn (l.getD k 0) 0 := rfl
    have e2 : payTo l S (k + 1) = payTo l S k + if S.testBit k then l.getD k 0 else 0 := rfl
    obtain ⟨h1, h2⟩ := h k (by omega)
    have h3 := mn_cases (l.getD k 0) 0
    have h4 := mn_le_left (l.getD k 0) 0
    have h5 := mn_le_right (l.getD k 0) 0
    rw [e1, e2, ih fun i hi => h i (by omega)]
    cases hb : S.testBit k
    · rw [if_neg (by simp)]
      have := h2 hb
      omega
    · rw [if_pos rfl]
      have := h1 hb
      omega
/-- A part of a group pays at least as much where nobody outside of it pays more than 0. -/
theorem payTo_mono (l : List Int) (x a k : Nat) (hx : ∀ i, x.testBit i = true → a.testBit i = true) (h : ∀ i, i < k → a.testBit i = true → x.testBit i = false → l.getD i 0 ≤ 0) : payTo l a k ≤ payTo l x k := by
  induction k with
  | zero => exact Int.le_refl _
  | succ k ih =>
    have e1 : payTo l a (k + 1) = payTo l a k + if a.testBit k then l.getD k 0 else 0 := rfl
    have e2 : payTo l x (k + 1) = payTo l x k + if x.testBit k then l.getD k 0 else 0 := rfl
    have h0 := ih fun i hi => h i (by omega)
    have h1 := h k (by omega)
    have h2 := hx k
    rw [e1, e2]
    clear h ih hx
    generalize l.getD k 0 = v at *
    cases ha : a.testBit k <;> cases hb : x.testBit k <;> rw [ha, hb] at h1 h2 <;> simp at h1 h2 ⊢ <;> omega
theorem payTo_anti (l : List Int) (a y k : Nat) (hx : ∀ i, a.testBit i = true → y.testBit i = true) (h : ∀ i, i < k → y.testBit i = true → a.testBit i = false → 0 ≤ l.getD i 0) : payTo l a k ≤ payTo l y k := by
  induction k with
  | zero => exact Int.le_refl _
  | succ k ih =>
    have e1 : payTo l a (k + 1) = payTo l a k + if a.testBit k then l.getD k 0 else 0 := rfl
    have e2 : payTo l y (k + 1) = payTo l y k + if y.testBit k then l.getD k 0 else 0 := rfl
    have h0 := ih fun i hi => h i (by omega)
    have h1 := h k (by omega)
    have h2 := hx k
    rw [e1, e2]
    clear h ih hx
    generalize l.getD k 0 = v at *
    cases ha : a.testBit k <;> cases hb : y.testBit k <;> rw [ha, hb] at h1 h2 <;> simp at h1 h2 ⊢ <;> omega

/-! ### Greedy, the last one first -/
/-- A cost of groups that is submodular. -/
def SubF (n : Nat) (H : Nat → Int) : Prop := ∀ a b, a < 2 ^ n → b < 2 ^ n → H (a ||| b) + H (a &&& b) ≤ H a + H b
def tail (n i : Nat) : Nat := 2 ^ n - 2 ^ i
theorem tail_bits : ∀ n, n ≤ 6 → ∀ i, i ≤ n → ∀ j, j < 7 → (tail n i).testBit j = (decide (i ≤ j) && decide (j < n)) := by decide +kernel
theorem tail_lt : ∀ n, n ≤ 6 → ∀ i, i ≤ n → tail n i < 2 ^ n := by decide
theorem tail_step : ∀ n, n ≤ 6 → ∀ i, i < n → ∀ a, a < 64 → (a.testBit i = true → (a &&& tail n i) ||| tail n (i + 1) = tail n i ∧ (a &&& tail n i) &&& tail n (i + 1) = a &&& tail n (i + 1)) ∧ (a.testBit i = false → a &&& tail n i = a &&& tail n (i + 1)) := by decide +kernel
theorem tail_all : ∀ n, n ≤ 6 → ∀ a, a < 2 ^ n → a &&& tail n 0 = a := by decide +kernel
theorem and_lt_pow {a b n : Nat} (h : a < 2 ^ n) : a &&& b < 2 ^ n := Nat.lt_of_le_of_lt Nat.and_le_left h

/-- p is what each pays who comes after all with a greater number. -/
def IsRev (n : Nat) (H : Nat → Int) (p : List Int) : Prop := p.length = n ∧ ∀ i, i < n → p.getD i 0 = H (tail n i) - H (tail n (i + 1))
section
variable {n : Nat} {H : Nat → Int} {p l : List Int}
theorem rev_le (hn : n ≤ 6) (hs : SubF n H) (hp : IsRev n H p) (a : Nat) (ha : a < 2 ^ n) : pay p a ≤ H a - H 0 := by
  obtain ⟨hl, hp⟩ := hp
  have h64 : a < 64 := Nat.lt_of_lt_of_le ha (Nat.le_trans (Nat.pow_le_pow_right (by omega) hn) (by decide))
  have key : ∀ d, d ≤ n → pay p a - payTo p a (n - d) ≤ H (a &&& tail n (n - d)) - H 0 := by
    intro d
    induction d with
    | zero =>
      intro _
      unfold pay
      rw [hl]
      simp [tail]
    | succ d ih =>
      intro hd
      have h1 := ih (by omega)
      have e : n - d = (n - (d + 1)) + 1 := by omega
      rw [e] at h1
      generalize n - (d + 1) = i at *
      have hi : i < n := by omega
      have e2 : payTo p a (i + 1) = payTo p a i + if a.testBit i then p.getD i 0 else 0 := rfl
      obtain ⟨t1, t2⟩ := tail_step n hn i hi a h64
      rw [e2] at h1
      cases hb : a.testBit i
      · rw [hb, if_neg (by simp)] at h1
        rw [t2 hb]; omega
      · rw [hb, if_pos rfl, hp i hi] at h1
        obtain ⟨t3, t4⟩ := t1 hb
        have := hs (a &&& tail n i) (tail n (i + 1)) (and_lt_pow ha) (tail_lt n hn (i + 1) (by omega))
        rw [t3, t4] at this
        omega
  have := key n (Nat.le_refl _)
  rw [Nat.sub_self, tail_all n hn a ha] at this
  have e : payTo p a 0 = 0 := rfl
  omega
theorem rev_pre (hn : n ≤ 6) (hp : IsRev n H p) (k : Nat) (hk : k ≤ n) : payTo p (tail n 0) k = H (tail n 0) - H (tail n k) := by
  obtain ⟨hl, hp⟩ := hp
  induction k with
  | zero => simp [payTo]
  | succ k ih =>
    have e : payTo p (tail n 0) (k + 1) = payTo p (tail n 0) k + if (tail n 0).testBit k then p.getD k 0 else 0 := rfl
    rw [e, ih (by omega), tail_bits n hn 0 (by omega) k (by omega)]
    rw [if_pos (by simp; omega), hp k (by omega)]
    omega
theorem rev_all (hn : n ≤ 6) (hp : IsRev n H p) : pay p (tail n 0) = H (tail n 0) - H 0 := by
  unfold pay
  rw [hp.1, rev_pre hn hp n (Nat.le_refl _)]
  simp [tail]
theorem pay_tail (hn : n ≤ 6) (hl : l.length = n) (k : Nat) (hk : k ≤ n) : pay l (tail n k) = pay l (tail n 0) - payTo l (tail n 0) k := by
  have key : ∀ m, m ≤ n → payTo l (tail n k) m = if m ≤ k then 0 else payTo l (tail n 0) m - payTo l (tail n 0) k := by
    intro m
    induction m with
    | zero => intro _; simp [payTo]
    | succ m ih =>
      intro hm
      have e1 : payTo l (tail n k) (m + 1) = payTo l (tail n k) m + if (tail n k).testBit m then l.getD m 0 else 0 := rfl
      have e2 : payTo l (tail n 0) (m + 1) = payTo l (tail n 0) m + if (tail n 0).testBit m then l.getD m 0 else 0 := rfl
      rw [e1, ih (by omega), tail_bits n hn k hk m (by omega)]
      by_cases h : m + 1 ≤ k
      · rw [if_pos (by omega), if_pos h, if_neg (by simp; omega)]; rfl
      · rw [if_neg h, e2, tail_bits n hn 0 (by omega) m (by omega)]
        rw [if_pos (show ((decide (0 ≤ m) && decide (m < n)) = true) by simp; omega)]
        rw [if_pos (show ((decide (k ≤ m) && decide (m < n)) = true) by simp; omega)]
        by_cases hmk : m ≤ k
        · obtain rfl : m = k := by omega
          rw [if_pos (by omega)]; omega
        · rw [if_neg hmk]; omega
  have := key n (Nat.le_refl _)
  unfold pay
  rw [hl, this]
  by_cases h : n ≤ k
  · obtain rfl : k = n := by omega
    rw [if_pos h]; omega
  · rw [if_neg h]
/-- The first place where l is not p: there l is greater. -/
theorem rev_lex (hn : n ≤ 6) (hp : IsRev n H p) (hl : l.length = n) (hle : ∀ a, a < 2 ^ n → pay l a ≤ H a) (hall : pay l (tail n 0) = H (tail n 0))
    (i : Nat) (hi : i < n) (hsame : ∀ j, j < i → l.getD j 0 = p.getD j 0) : p.getD i 0 ≤ l.getD i 0 := by
  have same : ∀ k, k ≤ i → payTo l (tail n 0) k = payTo p (tail n 0) k := by
    intro k
    induction k with
    | zero => intro _; rfl
    | succ k ih =>
      intro hk
      have e1 : payTo l (tail n 0) (k + 1) = payTo l (tail n 0) k + if (tail n 0).testBit k then l.getD k 0 else 0 := rfl
      have e2 : payTo p (tail n 0) (k + 1) = payTo p (tail n 0) k + if (tail n 0).testBit k then p.getD k 0 else 0 := rfl
      rw [e1, e2, ih (by omega), hsame k (by omega)]
  have h1 := pay_tail hn hl (i + 1) (by omega)
  have h2 := hle (tail n (i + 1)) (tail_lt n hn (i + 1) (by omega))
  have e1 : payTo l (tail n 0) (i + 1) = payTo l (tail n 0) i + if (tail n 0).testBit i then l.getD i 0 else 0 := rfl
  rw [tail_bits n hn 0 (by omega) i (by omega), if_pos (by simp; omega), same i (Nat.le_refl _), rev_pre hn hp i (by omega)] at e1
  rw [hp.2 i hi]
  omega
end

/-- The lexicographic order, as the statements have it. -/
def bfr : List Int → List Int → Bool
  | a :: as, b :: bs => if a = b then bfr as bs else decide (a < b)
  | _, _ => false
theorem bfr_false {l p : List Int} (h : ∀ i, i < l.length → i < p.length → (∀ j, j < i → l.getD j 0 = p.getD j 0) → p.getD i 0 ≤ l.getD i 0) : bfr l p = false := by
  induction l generalizing p with
  | nil => rfl
  | cons a as ih =>
    cases p with
    | nil => rfl
    | cons b bs =>
      have h0 := h 0 (by simp) (by simp) (fun j hj => by omega)
      simp only [List.getD_cons_zero] at h0
      unfold bfr
      split
      · rename_i he
        subst he
        refine ih fun i h1 h2 hs => ?_
        have := h (i + 1) (by simpa using h1) (by simpa using h2) (fun j hj => by
          cases j with
          | zero => rfl
          | succ j => simpa using hs j (by omega))
        simpa using this
      · exact decide_eq_false (by omega)
end Go.Proofs.YtmepndnckcpgjaaGreat

namespace Go.Proofs.YtmepndnckcpgjaaGreat

/-- The cost that the proving sharing is greedy for. -/
def hh (xs : List Int) (S a : Nat) : Int := inner xs (a &&& S) + (outer xs (S ||| a) - xs.getD S 0)
theorem and_part {x a b : Nat} (h : x &&& a = x) (hab : ∀ i, a.testBit i = true → b.testBit i = true) : x &&& b = x := by
  apply Nat.eq_of_testBit_eq
  intro i
  have h1 : (x &&& a).testBit i = x.testBit i := by rw [h]
  rw [Nat.testBit_and] at h1 ⊢
  have := hab i
  cases hx : x.testBit i <;> cases ha : a.testBit i <;> cases hb : b.testBit i <;> simp_all
theorem part_bit {x a : Nat} (h : x &&& a = x) (i : Nat) (hi : x.testBit i = true) : a.testBit i = true := by
  have h1 : (x &&& a).testBit i = x.testBit i := by rw [h]
  rw [Nat.testBit_and, hi] at h1
  simpa using h1
theorem part_of_bits {x a : Nat} (h : ∀ i, x.testBit i = true → a.testBit i = true) : x &&& a = x := by
  apply Nat.eq_of_testBit_eq
  intro i
  rw [Nat.testBit_and]
  have := h i
  cases hx : x.testBit i <;> simp_all
theorem whole_of_bits {x a : Nat} (h : ∀ i, a.testBit i = true → x.testBit i = true) : x &&& a = a := by
  rw [Nat.and_comm]; exact part_of_bits h
theorem tail_in : ∀ n, n ≤ 6 → ∀ i, i < n → ∀ S, S < 2 ^ n → (S.testBit i = true → S ||| tail n i = S ||| tail n (i + 1)) ∧ (S.testBit i = false → tail n i &&& S = tail n (i + 1) &&& S) := by decide +kernel

theorem all_only : ∀ n, n ≤ 6 → ∀ x, x < 2 ^ n → x &&& tail n 0 = tail n 0 → x = tail n 0 := by decide +kernel
theorem or_all : ∀ n, n ≤ 6 → ∀ S, S < 2 ^ n → S ||| tail n 0 = tail n 0 ∧ tail n 0 &&& S = S := by decide +kernel
def ndv (n S : Nat) : Nat := (2 ^ n - 1) ^^^ S
theorem compl_chk : ∀ n, n ≤ 6 → ∀ S, S < 2 ^ n → ndv n S < 2 ^ n ∧ S ||| ndv n S = tail n 0 ∧ S &&& ndv n S = 0 := by decide +kernel
theorem compl_bits (n : Nat) (hn : n ≤ 6) (S : Nat) (hS : S < 2 ^ n) : ∃ c, c < 2 ^ n ∧ S ||| c = tail n 0 ∧ S &&& c = 0 := ⟨ndv n S, compl_chk n hn S hS⟩
theorem proofL_len (n : Nat) (xs : List Int) : (proofL n xs).length = n := by simp [proofL]

section
variable {xs : List Int} {n : Nat}
theorem inner_sub (hs : Sub xs) (h0 : 0 < xs.length) (hl : xs.length = 2 ^ n) (a b : Nat) : inner xs (a ||| b) + inner xs (a &&& b) ≤ inner xs a + inner xs b := by
  obtain ⟨x, x1, x2, x3⟩ := inner_mem xs a h0
  obtain ⟨y, y1, y2, y3⟩ := inner_mem xs b h0
  have h1 := hs x y x1 y1
  have ho : x ||| y < xs.length := by rw [hl] at *; exact Nat.or_lt_two_pow x1 y1
  have ha : x &&& y < xs.length := Nat.lt_of_le_of_lt Nat.and_le_left x1
  have h2 := inner_le xs (a ||| b) (x ||| y) ho (part_of_bits fun i hi => by
    rw [Nat.testBit_or, Bool.or_eq_true] at hi ⊢
    rcases hi with hi | hi
    · exact .inl (part_bit x2 i hi)
    · exact .inr (part_bit y2 i hi))
  have h3 := inner_le xs (a &&& b) (x &&& y) ha (part_of_bits fun i hi => by
    rw [Nat.testBit_and, Bool.and_eq_true] at hi ⊢
    exact ⟨part_bit x2 i hi.1, part_bit y2 i hi.2⟩)
  omega
theorem outer_sub (hs : Sub xs) (hn : n ≤ 6) (hl : xs.length = 2 ^ n) (a b : Nat) (ha : a < 2 ^ n) (hb : b < 2 ^ n) : outer xs (a ||| b) + outer xs (a &&& b) ≤ outer xs a + outer xs b := by
  obtain ⟨x, x1, x2, x3⟩ := outer_mem xs n a hn hl ha
  obtain ⟨y, y1, y2, y3⟩ := outer_mem xs n b hn hl hb
  have h1 := hs x y x1 y1
  have ho : x ||| y < xs.length := by rw [hl] at *; exact Nat.or_lt_two_pow x1 y1
  have hc : x &&& y < xs.length := Nat.lt_of_le_of_lt Nat.and_le_left x1
  rw [Nat.and_comm] at x2 y2
  have h2 := outer_le xs (a ||| b) (x ||| y) ho (whole_of_bits fun i hi => by
    rw [Nat.testBit_or, Bool.or_eq_true] at hi ⊢
    rcases hi with hi | hi
    · exact .inl (part_bit x2 i hi)
    · exact .inr (part_bit y2 i hi))
  have h3 := outer_le xs (a &&& b) (x &&& y) hc (whole_of_bits fun i hi => by
    rw [Nat.testBit_and, Bool.and_eq_true] at hi ⊢
    exact ⟨part_bit x2 i hi.1, part_bit y2 i hi.2⟩)
  omega
theorem and_dist (a b S : Nat) : (a ||| b) &&& S = (a &&& S) ||| (b &&& S) ∧ (a &&& b) &&& S = (a &&& S) &&& (b &&& S) := by
  constructor <;> (apply Nat.eq_of_testBit_eq; intro i; simp only [Nat.testBit_and, Nat.testBit_or]; cases a.testBit i <;> cases b.testBit i <;> cases S.testBit i <;> rfl)
theorem or_dist (a b S : Nat) : S ||| (a ||| b) = (S ||| a) ||| (S ||| b) ∧ S ||| (a &&& b) = (S ||| a) &&& (S ||| b) := by
  constructor <;> (apply Nat.eq_of_testBit_eq; intro i; simp only [Nat.testBit_and, Nat.testBit_or]; cases a.testBit i <;> cases b.testBit i <;> cases S.testBit i <;> rfl)
theorem hh_sub (hs : Sub xs) (hn : n ≤ 6) (hl : xs.length = 2 ^ n) (S : Nat) (hS : S < 2 ^ n) : SubF n (hh xs S) := by
  intro a b ha hb
  have h0 : 0 < xs.length := by rw [hl]; exact Nat.pow_pos (by omega)
  have h1 := inner_sub hs h0 hl (a &&& S) (b &&& S)
  have h2 := outer_sub hs hn hl (S ||| a) (S ||| b) (Nat.or_lt_two_pow hS ha) (Nat.or_lt_two_pow hS hb)
  unfold hh
  rw [(and_dist a b S).1, (and_dist a b S).2, (or_dist a b S).1, (or_dist a b S).2]
  omega
theorem proofL_rev (hn : n ≤ 6) (hS : small xs < 2 ^ n) : IsRev n (hh xs (small xs)) (proofL n xs) := by
  refine ⟨by simp [proofL], fun i hi => ?_⟩
  have e : (proofL n xs).getD i 0 = proofAt n xs (small xs) i := by simp [proofL, List.getD_eq_getElem?_getD, hi]
  obtain ⟨t1, t2⟩ := tail_in n hn i hi (small xs) hS
  rw [e]
  unfold proofAt hh
  cases hb : (small xs).testBit i
  · rw [if_neg (by simp), t2 hb]
    show outer xs (small xs ||| tail n i) - outer xs (small xs ||| tail n (i + 1)) = _
    omega
  · rw [if_pos rfl, t1 hb]
    show inner xs (tail n i &&& small xs) - inner xs (tail n (i + 1) &&& small xs) = _
    omega

/-- What is known of a cost that has to be submodular. -/
structure Good (n : Nat) (xs : List Int) : Prop where
  n1 : 1 ≤ n
  n6 : n ≤ 6
  len : xs.length = 2 ^ n
  sub : Sub xs
  zero : xs.getD 0 0 = 0
  bnd : Bnd xs
theorem Good.of {m : Int} (h : asked m xs = 0) : ∃ k : Nat, m = k ∧ Good k xs := by
  obtain ⟨hok, hT⟩ := asked_zero h
  obtain ⟨k, e, h1, h6, hln, hbd, h0⟩ := costOk_facts hok
  exact ⟨k, e, h1, h6, hln, brkT_sub hT, h0, hbd⟩
variable (g : Good n xs)
include g
theorem Good.pos : 0 < xs.length := by rw [g.len]; exact Nat.pow_pos (by omega)
theorem Good.small_lt : small xs < 2 ^ n := by rw [← g.len]; exact Go.Proofs.YtmepndnckcpgjaaGreat.small_lt xs g.pos
theorem Good.fS : xs.getD (small xs) 0 = low xs := small_low g.sub g.n6 g.len
theorem Good.low0 : low xs ≤ 0 := by rw [← g.zero]; exact low_le xs 0 g.pos
theorem Good.innerS : inner xs (small xs) = low xs := by
  obtain ⟨x, h1, h2, h3⟩ := inner_mem xs (small xs) g.pos
  have h4 := inner_le xs (small xs) (small xs) (by rw [g.len]; exact g.small_lt) (Nat.and_self _)
  have h5 := low_le xs x h1
  have := g.fS
  omega
theorem Good.inner0 : inner xs 0 = 0 := by
  obtain ⟨x, h1, h2, h3⟩ := inner_mem xs 0 g.pos
  rw [Nat.and_zero] at h2
  rw [h3, ← h2, g.zero]
theorem Good.outerS : outer xs (small xs) = low xs := by
  obtain ⟨x, h1, h2, h3⟩ := outer_mem xs n (small xs) g.n6 g.len g.small_lt
  have h4 := outer_le xs (small xs) (small xs) (by rw [g.len]; exact g.small_lt) (Nat.and_self _)
  have h5 := low_le xs x h1
  have := g.fS
  omega
theorem Good.outerV : outer xs (tail n 0) = xs.getD (tail n 0) 0 := by
  obtain ⟨x, h1, h2, h3⟩ := outer_mem xs n (tail n 0) g.n6 g.len (tail_lt n g.n6 0 (by omega))
  rw [h3, all_only n g.n6 x (by rw [← g.len]; exact h1) h2]
theorem Good.hh0 : hh xs (small xs) 0 = 0 := by
  unfold hh
  rw [Nat.zero_and, Nat.or_zero, g.inner0, g.outerS, g.fS]; omega
theorem Good.hhV : hh xs (small xs) (tail n 0) = xs.getD (tail n 0) 0 := by
  obtain ⟨h1, h2⟩ := or_all n g.n6 _ g.small_lt
  unfold hh
  rw [h1, h2, g.innerS, g.outerV, g.fS]; omega
theorem Good.hh_le (a : Nat) (ha : a < 2 ^ n) : hh xs (small xs) a ≤ xs.getD a 0 := by
  have hS := g.small_lt
  have h1 := inner_le xs (a &&& small xs) (a &&& small xs) (by rw [g.len]; exact and_lt_pow ha) (Nat.and_self _)
  have h2 := outer_le xs (small xs ||| a) (small xs ||| a) (by rw [g.len]; exact Nat.or_lt_two_pow hS ha) (Nat.and_self _)
  have h3 := g.sub a (small xs) (by rw [g.len]; exact ha) (by rw [g.len]; exact hS)
  rw [Nat.or_comm a] at h3
  unfold hh
  omega
theorem Good.proof_rev : IsRev n (hh xs (small xs)) (proofL n xs) := proofL_rev g.n6 g.small_lt
theorem Good.proof_le (a : Nat) (ha : a < 2 ^ n) : pay (proofL n xs) a ≤ hh xs (small xs) a := by
  have := rev_le g.n6 (hh_sub g.sub g.n6 g.len _ g.small_lt) g.proof_rev a ha
  rw [g.hh0] at this
  omega
theorem Good.proof_all : pay (proofL n xs) (tail n 0) = xs.getD (tail n 0) 0 := by
  rw [rev_all g.n6 g.proof_rev, g.hh0, g.hhV]; omega
theorem Good.tail0 : xs.length - 1 = tail n 0 := by rw [g.len]; rfl
theorem isFair_mk {l : List Int} (h1 : ∀ a, a < 2 ^ n → pay l a ≤ xs.getD a 0) (h2 : pay l (tail n 0) = xs.getD (tail n 0) 0) : isFair xs l = true := by
  unfold isFair
  rw [overI_miss (fun j hj => by have := h1 j (by rw [← g.len]; exact hj); omega), g.tail0, h2]
  simp
theorem isFair_facts {l : List Int} (h : isFair xs l = true) : (∀ a, a < 2 ^ n → pay l a ≤ xs.getD a 0) ∧ pay l (tail n 0) = xs.getD (tail n 0) 0 := by
  unfold isFair at h
  rw [g.tail0] at h
  simp only [Bool.and_eq_true, decide_eq_true_eq, beq_iff_eq] at h
  exact ⟨fun a ha => overI_neg h.1 a (by rw [g.len]; exact ha), h.2⟩
theorem Good.proof_fair : isFair xs (proofL n xs) = true :=
  isFair_mk g (fun a ha => Int.le_trans (g.proof_le a ha) (g.hh_le a ha)) g.proof_all
theorem Good.proof_sh : shOk n (proofL n xs) = true := by
  refine shOk_mk (proofL_len n xs) fun j hj => ?_
  have e : (proofL n xs).getD j 0 = proofAt n xs (small xs) j := by simp [proofL, List.getD_eq_getElem?_getD, hj]
  rw [e]
  have t1 := tail_lt n g.n6 j (by omega)
  have t2 := tail_lt n g.n6 (j + 1) (by omega)
  unfold proofAt
  split
  · have a1 := inner_in xs g.bnd ((2 ^ n - 2 ^ j) &&& small xs) g.pos
    have a2 := inner_in xs g.bnd ((2 ^ n - 2 ^ (j + 1)) &&& small xs) g.pos
    omega
  · have a1 := outer_in xs g.bnd n (small xs ||| (2 ^ n - 2 ^ j)) g.n6 g.len (Nat.or_lt_two_pow g.small_lt t1)
    have a2 := outer_in xs g.bnd n (small xs ||| (2 ^ n - 2 ^ (j + 1))) g.n6 g.len (Nat.or_lt_two_pow g.small_lt t2)
    omega
theorem Good.proof_S : pay (proofL n xs) (small xs) = low xs := by
  have h1 := Int.le_trans (g.proof_le _ g.small_lt) (g.hh_le _ g.small_lt)
  rw [g.fS] at h1
  obtain ⟨c, c1, c2, c3⟩ := compl_bits n g.n6 (small xs) g.small_lt
  have h2 := pay_mod (proofL n xs) (small xs) c
  rw [c2, c3, g.proof_all, pay_zero] at h2
  have h3 := g.proof_le c c1
  unfold hh at h3
  rw [Nat.and_comm, c3, c2, g.inner0, g.outerV, g.fS] at h3
  omega
theorem Good.proof_signs : ∀ i, i < n → ((small xs).testBit i = true → (proofL n xs).getD i 0 ≤ 0) ∧ ((small xs).testBit i = false → 0 ≤ (proofL n xs).getD i 0) := by
  intro i hi
  have e : (proofL n xs).getD i 0 = proofAt n xs (small xs) i := by simp [proofL, List.getD_eq_getElem?_getD, hi]
  rw [e]
  have tb : ∀ j, (tail n (i + 1)).testBit j = true → (tail n i).testBit j = true := fun j hj => by
    by_cases h7 : j < 7
    · rw [tail_bits n g.n6 _ (by omega) j h7] at hj
      rw [tail_bits n g.n6 _ (by omega) j h7]
      simp only [Bool.and_eq_true, decide_eq_true_eq] at hj ⊢
      omega
    · have := tail_lt n g.n6 (i + 1) (by omega)
      have h8 : tail n (i + 1) < 2 ^ j := Nat.lt_of_lt_of_le this (Nat.pow_le_pow_right (by omega) (by have := g.n6; omega))
      rw [Nat.testBit_lt_two_pow h8] at hj; cases hj
  unfold proofAt
  constructor
  · intro hb
    rw [if_pos hb]
    obtain ⟨x, x1, x2, x3⟩ := inner_mem xs ((2 ^ n - 2 ^ (i + 1)) &&& small xs) g.pos
    have := inner_le xs ((2 ^ n - 2 ^ i) &&& small xs) x x1 (and_part x2 fun j hj => by
      rw [Nat.testBit_and, Bool.and_eq_true] at hj ⊢
      exact ⟨tb j hj.1, hj.2⟩)
    omega
  · intro hb
    rw [hb, if_neg (by simp)]
    have t1 := tail_lt n g.n6 i (by omega)
    obtain ⟨x, x1, x2, x3⟩ := outer_mem xs n (small xs ||| (2 ^ n - 2 ^ i)) g.n6 g.len (Nat.or_lt_two_pow g.small_lt t1)
    have := outer_le xs (small xs ||| (2 ^ n - 2 ^ (i + 1))) x x1 (by
      rw [Nat.and_comm] at x2 ⊢
      exact part_of_bits fun j hj => part_bit x2 j (by
        rw [Nat.testBit_or, Bool.or_eq_true] at hj ⊢
        rcases hj with hj | hj
        · exact .inl hj
        · exact .inr (tb j hj)))
    omega
theorem Good.proof_below : belowS (proofL n xs) = low xs := by
  unfold belowS
  rw [below_of_signs _ (small xs) _ (by rw [(proofL_len n xs)]; exact g.proof_signs)]
  exact g.proof_S
theorem Good.below_any {l : List Int} (hf : isFair xs l = true) (a : Nat) (ha : a < 2 ^ n) : belowS l ≤ xs.getD a 0 :=
  Int.le_trans (below_le l a) ((isFair_facts g hf).1 a ha)
theorem Good.below_low {l : List Int} (hf : isFair xs l = true) : belowS l ≤ low xs := by
  rw [← g.fS]; exact g.below_any hf _ g.small_lt
/-- A fair sharing that proves the least cost is nowhere below the proving one. -/
theorem Good.proof_lex {l : List Int} (hl : l.length = n) (hf : isFair xs l = true) (hb : belowS l = low xs) : bfr l (proofL n xs) = false := by
  obtain ⟨f1, f2⟩ := isFair_facts g hf
  have hS := g.small_lt
  have hSp : pay l (small xs) = low xs := by
    have h1 := f1 _ hS
    have h2 := below_le l (small xs)
    rw [g.fS] at h1
    omega
  have sg := below_tight l (small xs) l.length (by show pay l (small xs) ≤ belowS l; omega)
  rw [hl] at sg
  have hle : ∀ a, a < 2 ^ n → pay l a ≤ hh xs (small xs) a := by
    intro a ha
    have m := pay_mod l a (small xs)
    have i1 : pay l (a &&& small xs) ≤ inner xs (a &&& small xs) := by
      obtain ⟨x, x1, x2, x3⟩ := inner_mem xs (a &&& small xs) g.pos
      have h1 := f1 x (by rw [← g.len]; exact x1)
      have h2 : pay l (a &&& small xs) ≤ pay l x := payTo_mono l x _ _ (fun i hi => part_bit x2 i hi) (fun i hi h3 _ => by
        rw [hl] at hi
        rw [Nat.testBit_and, Bool.and_eq_true] at h3
        exact (sg i hi).1 h3.2)
      omega
    have i2 : pay l (a ||| small xs) ≤ outer xs (small xs ||| a) := by
      rw [Nat.or_comm]
      obtain ⟨x, x1, x2, x3⟩ := outer_mem xs n (small xs ||| a) g.n6 g.len (Nat.or_lt_two_pow hS ha)
      have h1 := f1 x (by rw [← g.len]; exact x1)
      rw [Nat.and_comm] at x2
      have h2 : pay l (small xs ||| a) ≤ pay l x := payTo_anti l _ x _ (fun i hi => part_bit x2 i hi) (fun i hi _ h4 => by
        rw [hl] at hi
        rw [Nat.testBit_or, Bool.or_eq_false_iff] at h4
        exact (sg i hi).2 h4.1)
      omega
    have := g.fS
    unfold hh
    omega
  refine bfr_false fun i hi _ hs => ?_
  rw [hl] at hi
  exact rev_lex g.n6 g.proof_rev hl hle (by rw [g.hhV]; exact f2) i hi hs
end
end Go.Proofs.YtmepndnckcpgjaaGreat

namespace Go.Proofs.YtmepndnckcpgjaaGreat

/-- The order in which the last one comes first, as numbers. -/
def revL (n k : Nat) : List Int := (List.range k).map fun (t : Nat) => (n : Int) - 1 - (t : Int)
def wv (ws : List Int) (x : Int) : Int := ws.getD x.toNat 0
def swp (l : List Int) (k : Nat) : List Int := (l.set (k + 1) (l.getD k 0)).set k (l.getD (k + 1) 0)
def sift (ws : List Int) (l : List Int) : Nat → List Int
  | 0 => l
  | k + 1 => if wv ws (l.getD k 0) < wv ws (l.getD (k + 1) 0) then sift ws (swp l k) k else l
theorem swp_len (l : List Int) (k : Nat) : (swp l k).length = l.length := by simp [swp]
theorem swp_succ (x : Int) (t : List Int) (k : Nat) : swp (x :: t) (k + 1) = x :: swp t k := by simp [swp]
theorem swp_perm (l : List Int) (k : Nat) (hk : k + 1 < l.length) : (swp l k).Perm l := by
  induction k generalizing l with
  | zero =>
    match l, hk with
    | a :: b :: t, _ => exact List.Perm.swap a b t
  | succ k ih =>
    match l, hk with
    | a :: t, hk => rw [swp_succ]; exact (ih t (by simpa using hk)).cons a
theorem sift_len (ws l : List Int) (k : Nat) : (sift ws l k).length = l.length := by
  induction k generalizing l with
  | zero => rfl
  | succ k ih =>
    unfold sift
    split
    · rw [ih, swp_len]
    · rfl
theorem sift_perm (ws l : List Int) (k : Nat) (hk : k < l.length) : (sift ws l k).Perm l := by
  induction k generalizing l with
  | zero => exact List.Perm.refl _
  | succ k ih =>
    unfold sift
    split
    · exact (ih _ (by rw [swp_len]; omega)).trans (swp_perm l k hk)
    · exact List.Perm.refl _
theorem getD_app (a b : List Int) (k : Nat) (hk : k < a.length) : (a ++ b).getD k 0 = a.getD k 0 := by
  simp [List.getD_eq_getElem?_getD, List.getElem?_append_left hk]
theorem swp_app (a b : List Int) (k : Nat) (hk : k + 1 < a.length) : swp (a ++ b) k = swp a k ++ b := by
  unfold swp
  rw [getD_app a b k (by omega), getD_app a b (k + 1) hk, List.set_append_left _ _ hk, List.set_append_left _ _ (by rw [List.length_set]; omega)]
theorem sift_app (ws a b : List Int) (k : Nat) (hk : k < a.length) : sift ws (a ++ b) k = sift ws a k ++ b := by
  induction k generalizing a with
  | zero => rfl
  | succ k ih =>
    unfold sift
    rw [getD_app a b k (by omega), getD_app a b (k + 1) hk, swp_app a b k hk]
    split
    · exact ih _ (by rw [swp_len]; omega)
    · rfl
/-- The specification's order after t gardeners have come. -/
def ordR (ws : List Int) (n : Nat) : Nat → List Int
  | 0 => []
  | t + 1 => sift ws (ordR ws n t ++ [(n : Int) - 1 - (t : Int)]) t
theorem ordR_len (ws : List Int) (n t : Nat) : (ordR ws n t).length = t := by
  induction t with
  | zero => rfl
  | succ t ih => simp [ordR, sift_len, ih]
/-- The program's: sorted in place. -/
def arr (ws : List Int) (n i : Nat) : List Int := ordR ws n i ++ (revL n n).drop i
theorem revL_drop (n i : Nat) (hi : i < n) : (revL n n).drop i = ((n : Int) - 1 - (i : Int)) :: (revL n n).drop (i + 1) := by
  rw [List.drop_eq_getElem_cons (by simp [revL]; exact hi)]
  simp [revL]
theorem arr_succ (ws : List Int) (n i : Nat) (hi : i < n) : sift ws (arr ws n i) i = arr ws n (i + 1) := by
  have e : arr ws n i = (ordR ws n i ++ [(n : Int) - 1 - (i : Int)]) ++ (revL n n).drop (i + 1) := by
    unfold arr
    rw [revL_drop n i hi, List.append_assoc]; rfl
  rw [e, sift_app _ _ _ _ (by rw [List.length_append, ordR_len]; simp)]
  rfl
theorem arr_one (ws : List Int) (n : Nat) (hn : 1 ≤ n) : arr ws n 1 = revL n n := by
  have h := revL_drop n 0 (by omega)
  rw [List.drop_zero] at h
  rw [h]
  simp [arr, ordR, sift]
theorem arr_all (ws : List Int) (n : Nat) : arr ws n n = ordR ws n n := by
  unfold arr
  rw [List.drop_of_length_le (by simp [revL]), List.append_nil]
theorem arr_len (ws : List Int) (n i : Nat) (hi : i ≤ n) : (arr ws n i).length = n := by
  unfold arr
  rw [List.length_append, ordR_len, List.length_drop]
  simp [revL]; omega
/-- All are gardeners. -/
def InR (n : Nat) (l : List Int) : Prop := ∀ x ∈ l, 0 ≤ x ∧ x < (n : Int)
theorem InR.at_ {n : Nat} {l : List Int} (h : InR n l) (k : Nat) (hk : k < l.length) : 0 ≤ l.getD k 0 ∧ l.getD k 0 < (n : Int) := by
  have := h _ (List.getElem_mem hk)
  simpa [List.getD_eq_getElem?_getD, hk] using this
theorem InR.perm {n : Nat} {l m : List Int} (h : InR n l) (hp : m.Perm l) : InR n m := fun x hx => h x (hp.mem_iff.1 hx)
theorem InR.swp {n : Nat} {l : List Int} (h : InR n l) (k : Nat) (hk : k + 1 < l.length) : InR n (swp l k) := h.perm (swp_perm l k hk)
theorem revL_perm (ws : List Int) (n t : Nat) : (ordR ws n t).Perm (revL n t) := by
  induction t with
  | zero => exact List.Perm.refl _
  | succ t ih =>
    have e : revL n (t + 1) = revL n t ++ [(n : Int) - 1 - (t : Int)] := by simp [revL, List.range_succ]
    rw [e]
    exact (sift_perm ws _ t (by rw [List.length_append, ordR_len]; simp)).trans (ih.append_right _)
theorem revL_in (n t : Nat) (ht : t ≤ n) : InR n (revL n t) := fun x hx => by
  obtain ⟨i, hi, rfl⟩ := List.mem_map.1 hx
  rw [List.mem_range] at hi
  omega
theorem ordR_in (ws : List Int) (n t : Nat) (ht : t ≤ n) : InR n (ordR ws n t) := (revL_in n t ht).perm (revL_perm ws n t)
theorem arr_perm (ws : List Int) (n i : Nat) (hi : i ≤ n) : (arr ws n i).Perm (revL n n) := by
  have e : revL n n = revL n i ++ (revL n n).drop i := by
    have h1 : (revL n n).take i = revL n i := by simp [revL, ← List.map_take, List.take_range, Nat.min_eq_left hi]
    rw [← h1, List.take_append_drop]
  conv => rhs; rw [e]
  exact (revL_perm ws n i).append_right _
theorem revL_nodup : ∀ n, n ≤ 6 → ((revL n n).map Int.toNat).Nodup := by decide
theorem ordR_nodup (ws : List Int) (n : Nat) (hn : n ≤ 6) : ((ordR ws n n).map Int.toNat).Nodup :=
  ((revL_perm ws n n).map Int.toNat).nodup_iff.2 (revL_nodup n hn)

/-! ### the sharing -/
theorem gTo_in (n : Nat) (xs : List Int) (hb : Bnd xs) (ord : List Nat) (k j : Nat) : -2000000 ≤ (gTo n xs ord k).1.getD j 0 ∧ (gTo n xs ord k).1.getD j 0 ≤ 2000000 := by
  unfold gTo
  generalize ord.take k = l
  suffices ∀ s : List Int × Nat, (-2000000 ≤ s.1.getD j 0 ∧ s.1.getD j 0 ≤ 2000000) → -2000000 ≤ (l.foldl (gstep xs) s).1.getD j 0 ∧ (l.foldl (gstep xs) s).1.getD j 0 ≤ 2000000 by
    refine this _ ?_
    by_cases hj : j < n
    · simp [List.getD_eq_getElem?_getD, hj]
    · simp [List.getD_eq_getElem?_getD, hj]
  induction l with
  | nil => intro s hs; exact hs
  | cons a l ih =>
    intro s hs
    rw [List.foldl_cons]
    refine ih _ ?_
    unfold gstep
    have h1 := hb (s.2 ||| 2 ^ a)
    have h2 := hb s.2
    by_cases hja : a = j
    · by_cases hlt : j < s.1.length
      · subst hja
        simp only [List.getD_eq_getElem?_getD, List.getElem?_set_self hlt, Option.getD_some]
        simp only [List.getD_eq_getElem?_getD] at h1 h2
        omega
      · have hno : (s.1.set a (xs.getD (s.2 ||| 2 ^ a) 0 - xs.getD s.2 0)).length ≤ j := by rw [List.length_set]; omega
        rw [List.getD_eq_getElem?_getD, List.getElem?_eq_none hno, Option.getD_none]
        omega
    · simp only [List.getD_eq_getElem?_getD, List.getElem?_set_ne hja]
      simpa [List.getD_eq_getElem?_getD] using hs
theorem greedyL_in (n : Nat) (xs : List Int) (hb : Bnd xs) (ord : List Nat) (j : Nat) : -2000000 ≤ (greedyL n xs ord).getD j 0 ∧ (greedyL n xs ord).getD j 0 ≤ 2000000 := gTo_in n xs hb ord _ j
def dotTo (l ws : List Int) : Nat → Int
  | 0 => 0
  | k + 1 => dotTo l ws k + l.getD k 0 * ws.getD k 0
theorem mul_in {x y : Int} (hx : -2000000 ≤ x ∧ x ≤ 2000000) (hy : 0 ≤ y ∧ y ≤ 1000) : -2000000000 ≤ x * y ∧ x * y ≤ 2000000000 := by
  constructor
  · have h1 : 0 ≤ (x + 2000000) * y := Int.mul_nonneg (by omega) (by omega)
    rw [Int.add_mul] at h1
    omega
  · have h1 : 0 ≤ (2000000 - x) * y := Int.mul_nonneg (by omega) (by omega)
    rw [Int.sub_mul] at h1
    omega
theorem dotTo_in (l ws : List Int) (hl : ∀ j, -2000000 ≤ l.getD j 0 ∧ l.getD j 0 ≤ 2000000) (hw : ∀ j, 0 ≤ ws.getD j 0 ∧ ws.getD j 0 ≤ 1000) (k : Nat) : -2000000000 * (k : Int) ≤ dotTo l ws k ∧ dotTo l ws k ≤ 2000000000 * (k : Int) := by
  induction k with
  | zero => simp [dotTo]
  | succ k ih =>
    have := mul_in (hl k) (hw k)
    have e : dotTo l ws (k + 1) = dotTo l ws k + l.getD k 0 * ws.getD k 0 := rfl
    rw [e]
    omega
def dearL (n : Nat) (xs ws : List Int) : List Int := greedyL n xs ((ordR ws n n).map Int.toNat)
def dearErr (n : Int) (xs ws : List Int) : Int := if asked n xs = 0 then (if wOk n.toNat ws then 0 else 2) else asked n xs
def dearR (n : Int) (xs ws : List Int) : List Int := if dearErr n xs ws = 0 then dearL n.toNat xs ws else []
def dearS (n : Int) (xs ws : List Int) : Int := if dearErr n xs ws = 0 then dotTo (dearL n.toNat xs ws) ws n.toNat else 0
end Go.Proofs.YtmepndnckcpgjaaGreat

namespace Go.Proofs.YtmepndnckcpgjaaGreat

theorem payTo_set (l : List Int) (i : Nat) (v : Int) (b k : Nat) (hi : i < l.length) (h0 : l.getD i 0 = 0) : payTo (l.set i v) b k = payTo l b k + if i < k ∧ b.testBit i = true then v else 0 := by
  induction k with
  | zero => simp [payTo]
  | succ k ih =>
    have e1 : payTo (l.set i v) b (k + 1) = payTo (l.set i v) b k + if b.testBit k then (l.set i v).getD k 0 else 0 := rfl
    have e2 : payTo l b (k + 1) = payTo l b k + if b.testBit k then l.getD k 0 else 0 := rfl
    rw [e1, e2, ih]
    by_cases hk : k = i
    · subst hk
      have e3 : (l.set k v).getD k 0 = v := by simp [List.getD_eq_getElem?_getD, hi]
      rw [e3, h0]
      cases hb : b.testBit k <;> simp
    · have e3 : (l.set i v).getD k 0 = l.getD k 0 := by
        simp [List.getD_eq_getElem?_getD, List.getElem?_set_ne (fun h => hk h.symm)]
      rw [e3]
      by_cases h1 : i < k
      · simp [h1, show i < k + 1 by omega]; omega
      · simp [h1, show ¬ i < k + 1 by omega]
theorem pay_set (l : List Int) (i : Nat) (v : Int) (b : Nat) (hi : i < l.length) (h0 : l.getD i 0 = 0) : pay (l.set i v) b = pay l b + if b.testBit i = true then v else 0 := by
  unfold pay
  rw [List.length_set, payTo_set l i v b _ hi h0]
  simp [hi]
/-- Only what is paid within matters. -/
theorem payTo_sup (l : List Int) (b m k : Nat) (h : ∀ j, j < k → m.testBit j = false → l.getD j 0 = 0) : payTo l (b &&& m) k = payTo l b k := by
  induction k with
  | zero => rfl
  | succ k ih =>
    have e1 : payTo l (b &&& m) (k + 1) = payTo l (b &&& m) k + if (b &&& m).testBit k then l.getD k 0 else 0 := rfl
    have e2 : payTo l b (k + 1) = payTo l b k + if b.testBit k then l.getD k 0 else 0 := rfl
    rw [e1, e2, ih fun j hj => h j (by omega), Nat.testBit_and]
    cases hm : m.testBit k
    · rw [h k (by omega) hm]; simp
    · simp

theorem pigeon (n : Nat) (l : List Nat) (hd : l.Nodup) (h : ∀ x ∈ l, x < n) : l.length ≤ n := by
  induction n generalizing l with
  | zero =>
    cases l with
    | nil => exact Nat.le_refl _
    | cons a t => exact absurd (h a (List.mem_cons_self ..)) (by omega)
  | succ n ih =>
    have h1 := ih (l.erase n) (hd.erase n) (fun x hx => by
      rw [hd.mem_erase_iff] at hx
      have := h x hx.2
      omega)
    rw [List.length_erase] at h1
    split at h1 <;> omega

section
variable {n : Nat} {xs : List Int} {ord : List Nat}
theorem mask_bit (k j : Nat) : (gTo n xs ord k).2.testBit j = decide (j ∈ ord.take k) := by
  unfold gTo
  generalize ord.take k = l
  suffices ∀ s : List Int × Nat, (l.foldl (gstep xs) s).2.testBit j = (s.2.testBit j || decide (j ∈ l)) by simpa using this (List.replicate n 0, 0)
  induction l with
  | nil => intro s; simp
  | cons a l ih =>
    intro s
    rw [List.foldl_cons, ih]
    unfold gstep
    simp only [Nat.testBit_or, Nat.testBit_two_pow, List.mem_cons]
    rw [Bool.eq_iff_iff]
    simp only [Bool.or_eq_true, decide_eq_true_eq]
    constructor
    · rintro ((h | h) | h)
      · exact .inl h
      · exact .inr (.inl h.symm)
      · exact .inr (.inr h)
    · rintro (h | h | h)
      · exact .inl (.inl h)
      · exact .inl (.inr h.symm)
      · exact .inr h
theorem out_zero (k j : Nat) (h : j ∉ ord.take k) : (gTo n xs ord k).1.getD j 0 = 0 := by
  unfold gTo
  revert h
  generalize ord.take k = l
  intro h
  suffices ∀ s : List Int × Nat, s.1.getD j 0 = 0 → (l.foldl (gstep xs) s).1.getD j 0 = 0 by
    refine this _ ?_
    by_cases hj : j < n <;> simp [List.getD_eq_getElem?_getD, hj]
  induction l with
  | nil => intro s hs; exact hs
  | cons a l ih =>
    intro s hs
    simp only [List.mem_cons, not_or] at h
    rw [List.foldl_cons]
    refine ih h.2 _ ?_
    unfold gstep
    simp only [List.getD_eq_getElem?_getD, List.getElem?_set_ne (fun e : a = j => h.1 e.symm)]
    simpa [List.getD_eq_getElem?_getD] using hs
/-- An order of gardeners. -/
structure Ord (n : Nat) (ord : List Nat) : Prop where
  len : ord.length = n
  lt : ∀ j, j < n → ord.getD j 0 < n
  nd : ord.Nodup
theorem Ord.new (o : Ord n ord) (k : Nat) (hk : k < n) : ord.getD k 0 ∉ ord.take k := by
  have hk' : k < ord.length := by rw [o.len]; exact hk
  have h1 : ord.take (k + 1) = ord.take k ++ [ord.getD k 0] := by
    rw [List.take_succ_eq_append_getElem hk']; simp [List.getD_eq_getElem?_getD, hk']
  have h2 : (ord.take (k + 1)).Nodup := o.nd.sublist (List.take_sublist _ _)
  rw [h1, List.nodup_append] at h2
  intro h
  exact h2.2.2 _ h _ (List.mem_singleton.2 rfl) rfl
theorem Ord.mlt (o : Ord n ord) (k : Nat) (hk : k ≤ n) : (gTo n xs ord k).2 < 2 ^ n := gTo_lt n xs ord k (fun j hj => o.lt j (by rw [← o.len]; exact hj)) (by rw [o.len]; exact hk)
variable (g : Good n xs) (o : Ord n ord)
include g o
theorem greedy_step (k : Nat) (hk : k ≤ n) : (∀ b, b < 2 ^ n → b &&& (gTo n xs ord k).2 = b → pay (gTo n xs ord k).1 b ≤ xs.getD b 0) ∧ pay (gTo n xs ord k).1 (gTo n xs ord k).2 = xs.getD (gTo n xs ord k).2 0 := by
  induction k with
  | zero =>
    have e : (gTo n xs ord 0) = (List.replicate n 0, 0) := rfl
    rw [e]
    constructor
    · intro b _ hb
      rw [Nat.and_zero] at hb
      subst hb
      rw [pay_zero, g.zero]
      exact Int.le_refl _
    · show pay _ 0 = xs.getD 0 0
      rw [pay_zero, g.zero]
  | succ k ih =>
    obtain ⟨ih1, ih2⟩ := ih (by omega)
    have hnew := o.new k (by omega)
    have hb0 : (gTo n xs ord k).2.testBit (ord.getD k 0) = false := by rw [mask_bit]; exact decide_eq_false hnew
    have hz : (gTo n xs ord k).1.getD (ord.getD k 0) 0 = 0 := out_zero k _ hnew
    have hm := o.mlt (xs := xs) k (by omega)
    have hi := o.lt k (by omega)
    have hlen := gTo_len n xs ord k
    have hout : ∀ j, j < n → (gTo n xs ord k).2.testBit j = false → (gTo n xs ord k).1.getD j 0 = 0 := fun j _ hj => by
      rw [mask_bit] at hj
      exact out_zero k j (of_decide_eq_false hj)
    rw [gTo_succ n xs ord k (by rw [o.len]; omega)]
    unfold gstep
    generalize gTo n xs ord k = s at *
    obtain ⟨l, m⟩ := s
    simp only at *
    generalize ord.getD k 0 = i at *
    have hpw : 2 ^ i < 2 ^ n := Nat.pow_lt_pow_right (by omega) hi
    have key : ∀ b, b < 2 ^ n → b &&& (m ||| 2 ^ i) = b → b.testBit i = true → pay l b = pay l (b &&& m) ∧ b ||| m = m ||| 2 ^ i := fun b hb h1 h2 => by
      refine ⟨?_, ?_⟩
      · unfold pay; rw [payTo_sup l b m _ (fun j hj => hout j (by omega))]
      · apply Nat.eq_of_testBit_eq
        intro j
        have h3 : (b &&& (m ||| 2 ^ i)).testBit j = b.testBit j := by rw [h1]
        simp only [Nat.testBit_and, Nat.testBit_or, Nat.testBit_two_pow] at h3 ⊢
        by_cases hij : i = j
        · subst hij; rw [h2]; simp
        · simp only [hij, decide_false, Bool.or_false] at h3 ⊢
          cases hbj : b.testBit j <;> cases hmj : m.testBit j <;> simp_all
    constructor
    · intro b hb h1
      rw [pay_set l i _ b (by omega) hz]
      cases h2 : b.testBit i
      · rw [if_neg (by simp)]
        have h3 : b &&& m = b := by
          apply Nat.eq_of_testBit_eq
          intro j
          have h3 : (b &&& (m ||| 2 ^ i)).testBit j = b.testBit j := by rw [h1]
          simp only [Nat.testBit_and, Nat.testBit_or, Nat.testBit_two_pow] at h3 ⊢
          by_cases hij : i = j
          · subst hij; rw [h2]; rfl
          · simp only [hij, decide_false, Bool.or_false] at h3
            exact h3
        have := ih1 b hb h3
        omega
      · rw [if_pos rfl]
        obtain ⟨k1, k2⟩ := key b hb h1 h2
        have h3 := ih1 (b &&& m) (and_lt_pow hb) (by rw [Nat.and_assoc, Nat.and_self])
        have h4 := g.sub b m (by rw [g.len]; exact hb) (by rw [g.len]; exact hm)
        rw [k2] at h4
        omega
    · rw [pay_set l i _ _ (by omega) hz]
      have h2 : (m ||| 2 ^ i).testBit i = true := by rw [Nat.testBit_or, Nat.testBit_two_pow]; simp
      rw [if_pos h2]
      obtain ⟨k1, _⟩ := key (m ||| 2 ^ i) (Nat.or_lt_two_pow hm hpw) (Nat.and_self _) h2
      have k3 : (m ||| 2 ^ i) &&& m = m := by rw [Nat.and_comm]; exact or_and (by rw [← Nat.or_assoc, Nat.or_self])
      rw [k1, k3, ih2]
      omega
/-- Those who came first pay the same at the end. -/
theorem greedy_pre (k q : Nat) (hk : k ≤ q) (hq : q ≤ n) : pay (gTo n xs ord q).1 (gTo n xs ord k).2 = xs.getD (gTo n xs ord k).2 0 := by
  obtain ⟨d, rfl⟩ : ∃ d, q = k + d := ⟨q - k, by omega⟩
  induction d with
  | zero => exact (greedy_step g o k (by omega)).2
  | succ d ih =>
    have hnew := o.new (k + d) (by omega)
    rw [show k + (d + 1) = (k + d) + 1 by omega, gTo_succ n xs ord (k + d) (by rw [o.len]; omega)]
    unfold gstep
    rw [pay_set _ _ _ _ (by rw [gTo_len]; exact o.lt _ (by omega)) (out_zero _ _ hnew), ih (by omega) (by omega)]
    have : (gTo n xs ord k).2.testBit (ord.getD (k + d) 0) = false := by
      rw [mask_bit]
      refine decide_eq_false fun h => hnew ?_
      exact (List.take_sublist_take_left (by omega : k ≤ k + d)).subset h
    rw [this]; simp
omit g in
theorem Ord.mem (j : Nat) (hj : j < n) : j ∈ ord := by
  by_cases h : j ∈ ord
  · exact h
  · exfalso
    have h1 := pigeon n (j :: ord) (List.nodup_cons.2 ⟨h, o.nd⟩) (fun x hx => by
      rcases List.mem_cons.1 hx with rfl | hx
      · exact hj
      · obtain ⟨i, hi, rfl⟩ := List.getElem_of_mem hx
        have := o.lt i (by rw [← o.len]; exact hi)
        simpa [List.getD_eq_getElem?_getD, hi] using this)
    rw [List.length_cons, o.len] at h1
    omega
theorem mask_all : (gTo n xs ord n).2 = tail n 0 := by
  apply Nat.eq_of_testBit_eq
  intro j
  rw [mask_bit]
  by_cases h7 : j < 7
  · rw [tail_bits n g.n6 0 (by omega) j h7, ← o.len, List.take_length, o.len]
    by_cases hj : j < n
    · rw [decide_eq_true (o.mem j hj)]; simp [hj]
    · rw [decide_eq_false (fun h => hj (by
        obtain ⟨i, hi, rfl⟩ := List.getElem_of_mem h
        have := o.lt i (by rw [← o.len]; exact hi)
        simpa [List.getD_eq_getElem?_getD, hi] using this))]
      simp [hj]
  · have h1 : tail n 0 < 2 ^ j := Nat.lt_of_lt_of_le (tail_lt n g.n6 0 (by omega)) (Nat.pow_le_pow_right (by omega) (by have := g.n6; omega))
    rw [Nat.testBit_lt_two_pow h1]
    refine decide_eq_false fun h => ?_
    rw [← o.len, List.take_length] at h
    obtain ⟨i, hi, rfl⟩ := List.getElem_of_mem h
    have := o.lt i (by rw [← o.len]; exact hi)
    rw [List.getD_eq_getElem?_getD, List.getElem?_eq_getElem hi, Option.getD_some] at this
    have := g.n6
    omega
omit g in
theorem greedyL_eq : greedyL n xs ord = (gTo n xs ord n).1 := by unfold greedyL; rw [o.len]
theorem greedy_le (b : Nat) (hb : b < 2 ^ n) : pay (greedyL n xs ord) b ≤ xs.getD b 0 := by
  rw [greedyL_eq o]
  refine (greedy_step g o n (Nat.le_refl _)).1 b hb ?_
  rw [mask_all g o, tail_all n g.n6 b hb]
theorem greedy_fair : isFair xs (greedyL n xs ord) = true := by
  refine isFair_mk g (fun a ha => greedy_le g o a ha) ?_
  rw [greedyL_eq o, ← mask_all g o]
  exact (greedy_step g o n (Nat.le_refl _)).2
omit o in
theorem greedy_sh : shOk n (greedyL n xs ord) = true :=
  shOk_mk (greedyL_len _ _ _) fun j _ => by have := greedyL_in n xs g.bnd ord j; omega
end
end Go.Proofs.YtmepndnckcpgjaaGreat

namespace Go.Proofs.YtmepndnckcpgjaaGreat

/-! ### sorted -/
def heavier (ws : List Int) (a b : Int) : Prop := wv ws b < wv ws a ∨ (wv ws a = wv ws b ∧ b < a)
theorem sift_sorted (ws : List Int) (x : Int) (d : Nat) : ∀ S : List Int, S.length = d → S.Pairwise (heavier ws) → (∀ y ∈ S, x < y) → (sift ws (S ++ [x]) d).Pairwise (heavier ws) := by
  induction d with
  | zero =>
    intro S hS _ _
    have : S = [] := List.eq_nil_of_length_eq_zero hS
    subst this
    simp [sift]
  | succ d ih =>
    intro S hS hp hx
    obtain ⟨S', y, rfl⟩ : ∃ S' y, S = S' ++ [y] := by
      exact ⟨S.dropLast, S.getLast (fun h => by rw [h] at hS; cases hS), (List.dropLast_concat_getLast _).symm⟩
    have hl : S'.length = d := by simpa using hS
    have e1 : (S' ++ [y] ++ [x]).getD d 0 = y := by
      rw [List.append_assoc, List.getD_eq_getElem?_getD, List.getElem?_append_right (by omega), hl]; simp
    have e2 : (S' ++ [y] ++ [x]).getD (d + 1) 0 = x := by
      rw [List.getD_eq_getElem?_getD, List.getElem?_append_right (by simp; omega)]; simp [hl]
    have e3 : swp (S' ++ [y] ++ [x]) d = S' ++ [x] ++ [y] := by
      unfold swp
      rw [e1, e2, ← hl]
      simp
    rw [List.pairwise_append] at hp
    obtain ⟨hp1, _, hp3⟩ := hp
    unfold sift
    rw [e1, e2, e3]
    split
    · rename_i hlt
      rw [sift_app ws (S' ++ [x]) [y] d (by simp; omega), List.pairwise_append]
      refine ⟨ih S' hl hp1 (fun z hz => hx z (List.mem_append_left _ hz)), List.pairwise_singleton _ _, fun z hz b hb => ?_⟩
      rw [List.mem_singleton] at hb
      subst hb
      have hz' := (sift_perm ws (S' ++ [x]) d (by simp; omega)).mem_iff.1 hz
      rw [List.mem_append, List.mem_singleton] at hz'
      rcases hz' with hz' | rfl
      · exact hp3 z hz' b (List.mem_singleton.2 rfl)
      · exact .inl hlt
    · rename_i hge
      rw [List.pairwise_append]
      refine ⟨List.pairwise_append.2 ⟨hp1, List.pairwise_singleton _ _, hp3⟩, List.pairwise_singleton _ _, fun z hz b hb => ?_⟩
      rw [List.mem_singleton] at hb
      subst hb
      have hzx := hx z hz
      rw [List.mem_append, List.mem_singleton] at hz
      have : wv ws y ≤ wv ws z := by
        rcases hz with hz | rfl
        · rcases hp3 z hz y (List.mem_singleton.2 rfl) with h | h <;> omega
        · exact Int.le_refl _
      unfold heavier
      omega
theorem ordR_sorted (ws : List Int) (n t : Nat) (ht : t ≤ n) : (ordR ws n t).Pairwise (heavier ws) := by
  induction t with
  | zero => exact List.Pairwise.nil
  | succ t ih =>
    refine sift_sorted ws _ t _ (ordR_len ws n t) (ih (by omega)) fun y hy => ?_
    have := (revL_perm ws n t).mem_iff.1 hy
    obtain ⟨i, hi, rfl⟩ := List.mem_map.1 this
    rw [List.mem_range] at hi
    omega
def ordN (ws : List Int) (n : Nat) : List Nat := (ordR ws n n).map Int.toNat
def heavN (ws : List Int) (a b : Nat) : Prop := ws.getD b 0 < ws.getD a 0 ∨ (ws.getD a 0 = ws.getD b 0 ∧ b < a)
theorem ordN_sorted (ws : List Int) (n : Nat) : (ordN ws n).Pairwise (heavN ws) := by
  unfold ordN
  rw [List.pairwise_map]
  refine List.Pairwise.imp_of_mem (fun {a b} ha hb h => ?_) (ordR_sorted ws n n (Nat.le_refl _))
  have h1 := ordR_in ws n n (Nat.le_refl _) a ha
  have h2 := ordR_in ws n n (Nat.le_refl _) b hb
  rcases h with h | ⟨h3, h4⟩
  · exact .inl h
  · exact .inr ⟨h3, by omega⟩
theorem ordN_ord (ws : List Int) (n : Nat) (hn : n ≤ 6) : Ord n (ordN ws n) := by
  refine ⟨by simp [ordN, ordR_len], fun j hj => ?_, ordR_nodup ws n hn⟩
  have h := (ordR_in ws n n (Nat.le_refl _)).at_ j (by rw [ordR_len]; exact hj)
  have e : (ordN ws n).getD j 0 = ((ordR ws n n).getD j 0).toNat := by
    have : j < (ordR ws n n).length := by rw [ordR_len]; exact hj
    simp [ordN, List.getD_eq_getElem?_getD, this]
  rw [e]
  omega

theorem xor_split (U M : Nat) (h : ∀ j, M.testBit j = true → U.testBit j = true) : U = M ||| (U ^^^ M) ∧ M &&& (U ^^^ M) = 0 := by
  constructor
  · apply Nat.eq_of_testBit_eq
    intro j
    have := h j
    simp only [Nat.testBit_or, Nat.testBit_xor]
    cases hu : U.testBit j <;> cases hm : M.testBit j <;> simp_all
  · apply Nat.eq_of_testBit_eq
    intro j
    have := h j
    simp only [Nat.testBit_and, Nat.testBit_xor, Nat.zero_testBit]
    cases hu : U.testBit j <;> cases hm : M.testBit j <;> simp_all
theorem xor_bit (U M : Nat) (h : ∀ j, M.testBit j = true → U.testBit j = true) (j : Nat) (hj : (U ^^^ M).testBit j = true) : U.testBit j = true ∧ M.testBit j = false := by
  rw [Nat.testBit_xor] at hj
  have := h j
  cases hu : U.testBit j <;> cases hm : M.testBit j <;> simp_all
/-! ### levels -/
theorem grpTo_bit (ws : List Int) (t : Int) (k j : Nat) : (grpTo ws t k).testBit j = (decide (j < k) && decide (t ≤ ws.getD j 0)) := by
  induction k with
  | zero => simp [grpTo]
  | succ k ih =>
    have e : grpTo ws t (k + 1) = if t ≤ ws.getD k 0 then grpTo ws t k ||| 2 ^ k else grpTo ws t k := rfl
    rw [e, Bool.eq_iff_iff]
    split
    · rename_i h
      rw [Nat.testBit_or, ih, Nat.testBit_two_pow]
      simp only [Bool.or_eq_true, Bool.and_eq_true, decide_eq_true_eq]
      constructor
      · rintro (⟨h1, h2⟩ | rfl)
        · exact ⟨by omega, h2⟩
        · exact ⟨by omega, h⟩
      · rintro ⟨h1, h2⟩
        by_cases hj : k = j
        · exact .inr hj
        · exact .inl ⟨by omega, h2⟩
    · rename_i h
      rw [ih]
      simp only [Bool.and_eq_true, decide_eq_true_eq]
      constructor
      · rintro ⟨h1, h2⟩; exact ⟨by omega, h2⟩
      · rintro ⟨h1, h2⟩
        refine ⟨?_, h2⟩
        by_cases hj : j = k
        · subst hj; exact absurd h2 h
        · omega
theorem mem_while {w : Nat → Int} {t : Int} (l : List Nat) (hp : l.Pairwise fun a b => w b ≤ w a) (x : Nat) (hx : x ∈ l) (ht : t ≤ w x) : x ∈ l.takeWhile fun j => decide (t ≤ w j) := by
  induction l with
  | nil => cases hx
  | cons a l ih =>
    rw [List.pairwise_cons] at hp
    have ha : t ≤ w a := by
      rcases List.mem_cons.1 hx with rfl | hx
      · exact ht
      · have := hp.1 x hx; omega
    rw [List.takeWhile_cons, if_pos (by simpa using ha)]
    rcases List.mem_cons.1 hx with rfl | hx
    · exact List.mem_cons_self ..
    · exact List.mem_cons_of_mem _ (ih hp.2 hx)
theorem level_pre (ws : List Int) (n : Nat) (hn : n ≤ 6) (xs : List Int) (t : Int) : ∃ k, k ≤ n ∧ (gTo n xs (ordN ws n) k).2 = grpTo ws t n := by
  have o := ordN_ord ws n hn
  have hp : ((ordN ws n).takeWhile fun j => decide (t ≤ ws.getD j 0)) <+: ordN ws n := List.takeWhile_prefix _
  refine ⟨((ordN ws n).takeWhile fun j => decide (t ≤ ws.getD j 0)).length, by have := hp.length_le; rw [o.len] at this; exact this, ?_⟩
  apply Nat.eq_of_testBit_eq
  intro j
  rw [mask_bit, ← List.prefix_iff_eq_take.1 hp, grpTo_bit, Bool.eq_iff_iff]
  simp only [Bool.and_eq_true, decide_eq_true_eq]
  constructor
  · intro h
    have h1 := List.all_eq_true.1 List.all_takeWhile _ h
    have h2 := hp.subset h
    obtain ⟨i, hi, rfl⟩ := List.getElem_of_mem h2
    have := o.lt i (by rw [← o.len]; exact hi)
    rw [List.getD_eq_getElem?_getD, List.getElem?_eq_getElem hi, Option.getD_some] at this
    exact ⟨this, by simpa using h1⟩
  · rintro ⟨h1, h2⟩
    refine mem_while (w := fun j => ws.getD j 0) _ ((ordN_sorted ws n).imp fun h => ?_) j (o.mem j h1) h2
    rcases h with h | h <;> omega

/-- The sum over the first T levels of what they pay. -/
def lay (l ws : List Int) (n k : Nat) : Nat → Int
  | 0 => 0
  | T + 1 => lay l ws n k T + payTo l (grpTo ws ((T : Int) + 1) n) k
theorem lay_k (l ws : List Int) (n k : Nat) (hk : k < n) (hw : 0 ≤ ws.getD k 0) (T : Nat) : lay l ws n (k + 1) T = lay l ws n k T + l.getD k 0 * (if ws.getD k 0 ≤ T then ws.getD k 0 else T) := by
  induction T with
  | zero =>
    simp only [lay]
    by_cases h : ws.getD k 0 ≤ (0 : Nat)
    · rw [if_pos h, show ws.getD k 0 = 0 by omega]; simp
    · rw [if_neg h]; simp
  | succ T ih =>
    have e1 : lay l ws n (k + 1) (T + 1) = lay l ws n (k + 1) T + payTo l (grpTo ws ((T : Int) + 1) n) (k + 1) := rfl
    have e2 : lay l ws n k (T + 1) = lay l ws n k T + payTo l (grpTo ws ((T : Int) + 1) n) k := rfl
    have e3 : payTo l (grpTo ws ((T : Int) + 1) n) (k + 1) = payTo l (grpTo ws ((T : Int) + 1) n) k + if (grpTo ws ((T : Int) + 1) n).testBit k then l.getD k 0 else 0 := rfl
    rw [e1, e2, e3, ih, grpTo_bit, decide_eq_true hk, Bool.true_and]
    generalize ws.getD k 0 = w at *
    generalize l.getD k 0 = x at *
    by_cases h1 : (T : Int) + 1 ≤ w
    · rw [show (if decide ((T : Int) + 1 ≤ w) = true then x else 0) = x from if_pos (by simpa using h1)]
      have h2 : (if w ≤ (T : Int) then w else (T : Int)) = T := by rw [if_neg (by omega)]
      have h3 : (if w ≤ ((T + 1 : Nat) : Int) then w else ((T + 1 : Nat) : Int)) = T + 1 := by
        by_cases h : w ≤ ((T + 1 : Nat) : Int)
        · rw [if_pos h]; omega
        · rw [if_neg h]; omega
      rw [h2, h3, Int.mul_add, Int.mul_one]
      omega
    · rw [show (if decide ((T : Int) + 1 ≤ w) = true then x else 0) = 0 from if_neg (by simpa using h1)]
      have h2 : (if w ≤ (T : Int) then w else (T : Int)) = w := by rw [if_pos (by omega)]
      have h3 : (if w ≤ ((T + 1 : Nat) : Int) then w else ((T + 1 : Nat) : Int)) = w := by rw [if_pos (by omega)]
      rw [h2, h3]
      omega
theorem lay_dot (l ws : List Int) (n : Nat) (hw : ∀ j, 0 ≤ ws.getD j 0 ∧ ws.getD j 0 ≤ 1000) (k : Nat) (hk : k ≤ n) : lay l ws n k 1000 = dotTo l ws k := by
  induction k with
  | zero =>
    have : ∀ T, lay l ws n 0 T = 0 := by
      intro T
      induction T with
      | zero => rfl
      | succ T ih => simp [lay, ih, payTo]
    exact this 1000
  | succ k ih =>
    have h := hw k
    rw [lay_k l ws n k (by omega) h.1, ih (by omega), if_pos (by omega)]
    rfl
section
variable {n : Nat} {xs ws l : List Int}
theorem lay_le (hl : l.length = n) (hwl : ws.length = n) (hle : ∀ a, a < 2 ^ n → pay l a ≤ xs.getD a 0) (T : Nat) : lay l ws n n T ≤ fillsTo xs ws T := by
  induction T with
  | zero => exact Int.le_refl _
  | succ T ih =>
    have e1 : lay l ws n n (T + 1) = lay l ws n n T + payTo l (grpTo ws ((T : Int) + 1) n) n := rfl
    have e2 : fillsTo xs ws (T + 1) = fillsTo xs ws T + xs.getD (grpTo ws ((T : Int) + 1) ws.length) 0 := rfl
    have h := hle (grpTo ws ((T : Int) + 1) n) (grpTo_lt ws _ n)
    unfold pay at h
    rw [hl] at h
    rw [e1, e2, hwl]
    omega
theorem lay_tight (hl : l.length = n) (hwl : ws.length = n) (hle : ∀ a, a < 2 ^ n → pay l a ≤ xs.getD a 0) (T : Nat) (h : fillsTo xs ws T ≤ lay l ws n n T) (t : Nat) (ht : t < T) : pay l (grpTo ws ((t : Int) + 1) n) = xs.getD (grpTo ws ((t : Int) + 1) n) 0 := by
  induction T with
  | zero => omega
  | succ T ih =>
    have e1 : lay l ws n n (T + 1) = lay l ws n n T + payTo l (grpTo ws ((T : Int) + 1) n) n := rfl
    have e2 : fillsTo xs ws (T + 1) = fillsTo xs ws T + xs.getD (grpTo ws ((T : Int) + 1) ws.length) 0 := rfl
    have h1 := hle (grpTo ws ((T : Int) + 1) n) (grpTo_lt ws _ n)
    have h2 := lay_le (ws := ws) hl hwl hle T
    have e3 : pay l (grpTo ws ((T : Int) + 1) n) = payTo l (grpTo ws ((T : Int) + 1) n) n := by unfold pay; rw [hl]
    rw [e1, e2, hwl] at h
    by_cases htT : t = T
    · subst htT; omega
    · exact ih (by omega) (by omega)
theorem pay_single (l : List Int) (i : Nat) (hi : i < l.length) : pay l (2 ^ i) = l.getD i 0 := by
  have : ∀ k, payTo l (2 ^ i) k = if i < k then l.getD i 0 else 0 := by
    intro k
    induction k with
    | zero => simp [payTo]
    | succ k ih =>
      have e : payTo l (2 ^ i) (k + 1) = payTo l (2 ^ i) k + if (2 ^ i).testBit k then l.getD k 0 else 0 := rfl
      rw [e, ih, Nat.testBit_two_pow]
      by_cases h : i = k
      · subst h; simp
      · by_cases h1 : i < k
        · simp [h, h1, show i < k + 1 by omega]
        · simp [h, h1, show ¬ i < k + 1 by omega]
  unfold pay
  rw [this, if_pos hi]
theorem pay_more (l : List Int) (m i : Nat) (hi : i < l.length) (hm : m.testBit i = false) : pay l (m ||| 2 ^ i) = pay l m + l.getD i 0 := by
  have h := pay_mod l m (2 ^ i)
  have e : m &&& 2 ^ i = 0 := by
    apply Nat.eq_of_testBit_eq
    intro j
    rw [Nat.testBit_and, Nat.testBit_two_pow, Nat.zero_testBit]
    by_cases hij : i = j
    · subst hij; rw [hm]; rfl
    · simp [hij]
  rw [e, pay_zero, pay_single l i hi] at h
  omega
theorem payTo_agree (l p : List Int) (b k : Nat) (h : ∀ j, j < k → b.testBit j = true → l.getD j 0 = p.getD j 0) : payTo l b k = payTo p b k := by
  induction k with
  | zero => rfl
  | succ k ih =>
    have e1 : payTo l b (k + 1) = payTo l b k + if b.testBit k then l.getD k 0 else 0 := rfl
    have e2 : payTo p b (k + 1) = payTo p b k + if b.testBit k then p.getD k 0 else 0 := rfl
    rw [e1, e2, ih fun j hj => h j (by omega)]
    cases hb : b.testBit k
    · rfl
    · rw [h k (by omega) hb]
variable (g : Good n xs) (hwl : ws.length = n) (hw : ∀ j, 0 ≤ ws.getD j 0 ∧ ws.getD j 0 ≤ 1000)
include g
theorem dear_fair : isFair xs (dearL n xs ws) = true := greedy_fair g (ordN_ord ws n g.n6)
omit g in
theorem dear_len : (dearL n xs ws).length = n := greedyL_len _ _ _
theorem dear_level (t : Int) : pay (dearL n xs ws) (grpTo ws t n) = xs.getD (grpTo ws t n) 0 := by
  have o := ordN_ord ws n g.n6
  obtain ⟨k, hk, e⟩ := level_pre ws n g.n6 xs t
  have := greedy_pre g o k n hk (Nat.le_refl _)
  rw [e] at this
  show pay (greedyL n xs (ordN ws n)) _ = _
  rw [greedyL_eq o]
  exact this
include hwl hw
theorem dear_dot : dotTo (dearL n xs ws) ws n = fills xs ws := by
  rw [← lay_dot _ ws n hw n (Nat.le_refl _)]
  have : ∀ T, lay (dearL n xs ws) ws n n T = fillsTo xs ws T := by
    intro T
    induction T with
    | zero => rfl
    | succ T ih =>
      have h := dear_level (ws := ws) g ((T : Int) + 1)
      unfold pay at h
      rw [dear_len] at h
      simp only [lay, fillsTo, ih, h, hwl]
  exact this 1000
theorem dot_le (hl : l.length = n) (hf : isFair xs l = true) : dotTo l ws n ≤ fills xs ws := by
  rw [← lay_dot l ws n hw n (Nat.le_refl _)]
  exact lay_le hl hwl (isFair_facts g hf).1 1000
theorem dear_lex (hl : l.length = n) (hf : isFair xs l = true) (hd : dotTo l ws n = fills xs ws) : bfr l (dearL n xs ws) = false := by
  obtain ⟨f1, f2⟩ := isFair_facts g hf
  have o := ordN_ord ws n g.n6
  have tight : ∀ t : Nat, t < 1000 → pay l (grpTo ws ((t : Int) + 1) n) = xs.getD (grpTo ws ((t : Int) + 1) n) 0 := fun t ht =>
    lay_tight hl hwl f1 1000 (by rw [lay_dot l ws n hw n (Nat.le_refl _), hd]; exact Int.le_refl _) t ht
  refine bfr_false fun i hi _ hs => ?_
  rw [hl] at hi
  obtain ⟨k, hk, hki⟩ := List.getElem_of_mem (o.mem i hi)
  rw [o.len] at hk
  have hki' : (ordN ws n).getD k 0 = i := by
    rw [List.getD_eq_getElem?_getD, List.getElem?_eq_getElem (by rw [o.len]; exact hk), Option.getD_some, hki]
  -- the level of i
  obtain ⟨U, hU1, hU2, hU3⟩ : ∃ U, (∀ j, U.testBit j = (decide (j < n) && decide (ws.getD i 0 ≤ ws.getD j 0))) ∧ pay l U = xs.getD U 0 ∧ pay (dearL n xs ws) U = xs.getD U 0 := by
    by_cases h0 : 1 ≤ ws.getD i 0
    · have e : ws.getD i 0 = (((ws.getD i 0).toNat - 1 : Nat) : Int) + 1 := by omega
      refine ⟨grpTo ws (ws.getD i 0) n, fun j => grpTo_bit ws _ n j, ?_, dear_level g _⟩
      have := tight ((ws.getD i 0).toNat - 1) (by have := hw i; omega)
      rw [← e] at this
      exact this
    · refine ⟨tail n 0, fun j => ?_, f2, (isFair_facts g (dear_fair g)).2⟩
      by_cases h7 : j < 7
      · rw [tail_bits n g.n6 0 (by omega) j h7]
        have := hw j
        have h1 : ws.getD i 0 ≤ ws.getD j 0 := by omega
        rw [decide_eq_true h1]; simp
      · have h1 : tail n 0 < 2 ^ j := Nat.lt_of_lt_of_le (tail_lt n g.n6 0 (by omega)) (Nat.pow_le_pow_right (by omega) (by have := g.n6; omega))
        rw [Nat.testBit_lt_two_pow h1, decide_eq_false (by have := g.n6; omega)]; rfl
  have pw := List.pairwise_iff_getElem.1 (ordN_sorted ws n)
  have hm1 : (gTo n xs (ordN ws n) (k + 1)).2 = (gTo n xs (ordN ws n) k).2 ||| 2 ^ i := by
    rw [gTo_succ n xs _ k (by rw [o.len]; exact hk), hki']; rfl
  have hnb : (gTo n xs (ordN ws n) k).2.testBit i = false := by
    rw [mask_bit]
    have := o.new k hk
    rw [hki'] at this
    exact decide_eq_false this
  have sub : ∀ j, (gTo n xs (ordN ws n) (k + 1)).2.testBit j = true → U.testBit j = true := fun j hj => by
    rw [mask_bit, decide_eq_true_eq] at hj
    obtain ⟨q, hq, hqj⟩ := List.getElem_of_mem hj
    rw [List.length_take, o.len] at hq
    rw [List.getElem_take] at hqj
    have hjn : j < n := by
      have := o.lt q (by omega)
      rw [List.getD_eq_getElem?_getD, List.getElem?_eq_getElem (by rw [o.len]; omega), Option.getD_some, hqj] at this
      exact this
    rw [hU1, decide_eq_true hjn, Bool.true_and, decide_eq_true_eq]
    by_cases hqk : q = k
    · subst hqk; rw [← hki, hqj]; exact Int.le_refl _
    · have := pw q k (by rw [o.len]; omega) (by rw [o.len]; exact hk) (by omega)
      rw [hqj, hki] at this
      rcases this with h | h <;> omega
  have oth : ∀ j, U.testBit j = true → (gTo n xs (ordN ws n) (k + 1)).2.testBit j = false → j < i := fun j h1 h2 => by
    rw [hU1, Bool.and_eq_true, decide_eq_true_eq, decide_eq_true_eq] at h1
    rw [mask_bit, decide_eq_false_iff_not] at h2
    obtain ⟨q, hq, hqj⟩ := List.getElem_of_mem (o.mem j h1.1)
    have hqk : k < q := by
      rcases Nat.lt_or_ge k q with h | h
      · exact h
      · exfalso
        apply h2
        rw [List.mem_take_iff_getElem]
        exact ⟨q, by rw [o.len] at hq ⊢; omega, hqj⟩
    have := pw k q (by rw [o.len]; exact hk) hq hqk
    rw [hqj, hki] at this
    rcases this with h | h <;> omega
  have hpk := greedy_pre g o k n (by omega) (Nat.le_refl _)
  have hpk1 := greedy_pre g o (k + 1) n (by omega) (Nat.le_refl _)
  rw [← greedyL_eq o] at hpk hpk1
  have hmk := o.mlt (xs := xs) k (by omega)
  have hlm := f1 _ hmk
  rw [hm1] at hpk1 sub oth
  generalize (gTo n xs (ordN ws n) k).2 = m at *
  have hD := xor_split U (m ||| 2 ^ i) sub
  have hag : pay l (U ^^^ (m ||| 2 ^ i)) = pay (dearL n xs ws) (U ^^^ (m ||| 2 ^ i)) := by
    unfold pay
    rw [hl, dear_len]
    exact payTo_agree _ _ _ _ fun j _ hb => hs j (oth j (xor_bit U _ sub j hb).1 (xor_bit U _ sub j hb).2)
  have a1 := pay_mod l (m ||| 2 ^ i) (U ^^^ (m ||| 2 ^ i))
  have a2 := pay_mod (dearL n xs ws) (m ||| 2 ^ i) (U ^^^ (m ||| 2 ^ i))
  rw [← hD.1, hD.2, pay_zero] at a1 a2
  have b1 := pay_more l m i (by rw [hl]; exact hi) hnb
  have b2 := pay_more (dearL n xs ws) m i (by rw [dear_len]; exact hi) hnb
  have e1 : pay (dearL n xs ws) m = xs.getD m 0 := hpk
  have e2 : pay (dearL n xs ws) (m ||| 2 ^ i) = xs.getD (m ||| 2 ^ i) 0 := hpk1
  omega
end
theorem dotTo_add (l a b s : List Int) (h : ∀ j, s.getD j 0 = a.getD j 0 + b.getD j 0) (k : Nat) : dotTo l s k = dotTo l a k + dotTo l b k := by
  induction k with
  | zero => rfl
  | succ k ih =>
    simp only [dotTo, ih, h k, Int.mul_add]
    omega
theorem fills_ones {n : Nat} {xs : List Int} (g : Good n xs) (x : Nat) (hx : x < 2 ^ n) (ws : List Int) (hwl : ws.length = n) (hw : ∀ j, j < n → ws.getD j 0 = if x.testBit j then 1 else 0) : fills xs ws = xs.getD x 0 := by
  have h1 : high ws ≤ (1 : Nat) := by
    unfold high
    refine (highTo_in ws ws.length 0 1 fun j => ?_).2
    by_cases hj : j < n
    · rw [hw j hj]; split <;> omega
    · rw [List.getD_eq_getElem?_getD, List.getElem?_eq_none (by omega)]; simp
  unfold fills
  rw [fillsTo_high xs ws g.zero 1 1000 h1 (by omega)]
  have e : fillsTo xs ws 1 = 0 + xs.getD (grpTo ws 1 ws.length) 0 := rfl
  rw [e, Int.zero_add, hwl]
  have e2 : grpTo ws 1 n = x := by
    apply Nat.eq_of_testBit_eq
    intro j
    rw [grpTo_bit]
    by_cases hj : j < n
    · rw [decide_eq_true hj, hw j hj]
      cases x.testBit j <;> rfl
    · rw [decide_eq_false hj, Bool.false_and]
      exact (Nat.testBit_lt_two_pow (Nat.lt_of_lt_of_le hx (Nat.pow_le_pow_right (by omega) (by omega)))).symm
  rw [e2]
end Go.Proofs.YtmepndnckcpgjaaGreat
