/- Plain laws (no program in sight): what the functions of layer 8 compute. No condition. -/
import GoSem.Claim
namespace Go.Proofs.YtmepndnckcpgjaaGreat

/-- The first index at which p holds, as Go's slices.IndexFunc gives it. -/
def firstIdx (p : Int → Bool) (xs : List Int) : Int := match xs.findIdx? p with | some i => (i : Int) | none => -1

theorem firstIdx_hit (p : Int → Bool) (xs : List Int) (k : Nat) (hk : k < xs.length) (h : p (xs.getD k 0) = true) (hb : ∀ j, j < k → p (xs.getD j 0) = false) : firstIdx p xs = k := by
  have e : xs.findIdx? p = some k := by
    rw [List.findIdx?_eq_some_iff_getElem]
    refine ⟨hk, by simpa [List.getD_eq_getElem?_getD, hk] using h, fun j hj => ?_⟩
    have := hb j hj
    simpa [List.getD_eq_getElem?_getD, Nat.lt_trans hj hk] using this
  simp [firstIdx, e]
theorem firstIdx_miss (p : Int → Bool) (xs : List Int) (hb : ∀ j, j < xs.length → p (xs.getD j 0) = false) : firstIdx p xs = -1 := by
  have e : xs.findIdx? p = none := by
    rw [List.findIdx?_eq_none_iff]
    intro x hx
    obtain ⟨j, hj, rfl⟩ := List.getElem_of_mem hx
    have := hb j hj
    simpa [List.getD_eq_getElem?_getD, hj] using this
  simp [firstIdx, e]
theorem firstIdx_any (p : Int → Bool) (xs : List Int) : decide (0 ≤ firstIdx p xs) = xs.any p := by
  unfold firstIdx
  cases h : xs.findIdx? p with
  | none =>
    rw [List.findIdx?_eq_none_iff] at h
    have : xs.any p = false := by simpa [List.any_eq_false] using h
    simp [this]
  | some i =>
    rw [List.findIdx?_eq_some_iff_getElem] at h
    obtain ⟨hi, hp, _⟩ := h
    have : xs.any p = true := List.any_eq_true.2 ⟨_, List.getElem_mem hi, hp⟩
    simp [this]

/-- A number out of a cost's range. -/
def outC (x : Int) : Bool := decide (x < -1000000) || decide (1000000 < x)
/-- Is it the cost of n gardeners? -/
def costOk (n : Int) (xs : List Int) : Bool := decide (1 ≤ n) && decide (n ≤ 6) && decide (xs.length = 2 ^ n.toNat) && !xs.any outC && decide (xs.getD 0 0 = 0)

/-- Two groups for which a cost is not submodular. -/
def bad (xs : List Int) (a b : Nat) : Bool := decide (xs.getD a 0 + xs.getD b 0 < xs.getD (a ||| b) 0 + xs.getD (a &&& b) 0)
def pairsFrom (n a : Nat) : List (Nat × Nat) := (List.range n).filterMap fun b => if a < b then some (a, b) else none
def pairs (n : Nat) : List (Nat × Nat) := (List.range n).flatMap fun a => pairsFrom n a
/-- The first pair of groups for which a cost is not submodular. -/
def brk (xs : List Int) : Option (Nat × Nat) := (pairs xs.length).find? fun p => bad xs p.1 p.2
def brkA (xs : List Int) : Int := match brk xs with | some p => p.1 | none => 0
def brkB (xs : List Int) : Int := match brk xs with | some p => p.2 | none => 0
def brkT (xs : List Int) : Bool := (brk xs).isSome

theorem find_append_none {α : Type} (p : α → Bool) (l m : List α) (h : ∀ x ∈ l, p x = false) : (l ++ m).find? p = m.find? p := by
  rw [List.find?_append, List.find?_eq_none.2 (by simpa using h)]; rfl

theorem mem_pairs (n a b : Nat) : (a, b) ∈ pairs n ↔ a < b ∧ b < n := by
  unfold pairs pairsFrom
  simp only [List.mem_flatMap, List.mem_range, List.mem_filterMap]
  constructor
  · rintro ⟨a', h1, b', h2, h3⟩
    split at h3
    · simp only [Option.some.injEq, Prod.mk.injEq] at h3; omega
    · cases h3
  · rintro ⟨h1, h2⟩
    exact ⟨a, by omega, b, h2, by rw [if_pos h1]⟩

theorem brk_miss (xs : List Int) (h : ∀ a b, a < b → b < xs.length → bad xs a b = false) : brk xs = none := by
  unfold brk
  rw [List.find?_eq_none]
  rintro ⟨a, b⟩ hm
  obtain ⟨h1, h2⟩ := (mem_pairs _ _ _).1 hm
  simp [h a b h1 h2]

theorem range_split (n k : Nat) (h : k < n) : List.range n = List.range k ++ k :: (List.range (n - k - 1)).map (· + k + 1) := by
  have e : n = k + ((n - k - 1) + 1) := by omega
  conv => lhs; rw [e, List.range_add, List.range_succ_eq_map, List.map_cons, List.map_map]
  congr 2
  apply List.map_congr_left
  intro x _
  simp; omega

theorem brk_hit (xs : List Int) (a b : Nat) (h1 : a < b) (h2 : b < xs.length) (hb : bad xs a b = true)
    (hA : ∀ a' b', a' < a → a' < b' → b' < xs.length → bad xs a' b' = false) (hB : ∀ b', a < b' → b' < b → bad xs a b' = false) : brk xs = some (a, b) := by
  unfold brk pairs
  rw [range_split xs.length a (by omega), List.flatMap_append, find_append_none, List.flatMap_cons, List.find?_append]
  · have e : (pairsFrom xs.length a).find? (fun p => bad xs p.1 p.2) = some (a, b) := by
      unfold pairsFrom
      rw [range_split xs.length b h2, List.filterMap_append, find_append_none]
      · simp [h1, hb]
      · intro x hx
        simp only [List.mem_filterMap, List.mem_range] at hx
        obtain ⟨b', h3, h4⟩ := hx
        split at h4
        · simp only [Option.some.injEq] at h4
          subst h4
          exact hB b' (by omega) h3
        · cases h4
    rw [e]; rfl
  · rintro ⟨a', b'⟩ hx
    simp only [List.mem_flatMap, List.mem_range, pairsFrom, List.mem_filterMap] at hx
    obtain ⟨a'', h3, b'', h4, h5⟩ := hx
    split at h5
    · simp only [Option.some.injEq, Prod.mk.injEq] at h5
      obtain ⟨rfl, rfl⟩ := h5
      exact hA _ _ h3 (by omega) h4
    · cases h5

/-- The error of a cost that has to be submodular. -/
def asked (n : Int) (xs : List Int) : Int := if costOk n xs then (if brkT xs then 5 else 0) else 2

/-- All numbers of a list are within the range of costs. -/
def Bnd (xs : List Int) : Prop := ∀ j, -1000000 ≤ xs.getD j 0 ∧ xs.getD j 0 ≤ 1000000

theorem costOk_facts {n : Int} {xs : List Int} (h : costOk n xs = true) : ∃ m : Nat, n = m ∧ 1 ≤ m ∧ m ≤ 6 ∧ xs.length = 2 ^ m ∧ Bnd xs ∧ xs.getD 0 0 = 0 := by
  unfold costOk at h
  simp only [Bool.and_eq_true, decide_eq_true_eq, Bool.not_eq_true', List.any_eq_false] at h
  obtain ⟨⟨⟨⟨h1, h2⟩, h3⟩, h4⟩, h5⟩ := h
  refine ⟨n.toNat, by omega, by omega, by omega, h3, fun j => ?_, h5⟩
  by_cases hj : j < xs.length
  · have := h4 _ (List.getElem_mem hj)
    simp only [outC, Bool.or_eq_true, decide_eq_true_eq, not_or] at this
    simp only [List.getD_eq_getElem?_getD, List.getElem?_eq_getElem hj, Option.getD_some]
    omega
  · simp only [List.getD_eq_getElem?_getD, List.getElem?_eq_none (by omega : xs.length ≤ j), Option.getD_none]
    omega

def mn (a b : Int) : Int := if b < a then b else a
/-- The least of the first k numbers (and of the first). -/
def lowTo (xs : List Int) : Nat → Int
  | 0 => xs.getD 0 0
  | k + 1 => mn (lowTo xs k) (xs.getD k 0)
def low (xs : List Int) : Int := lowTo xs xs.length
def smallTo (xs : List Int) (l : Int) : Nat → Nat
  | 0 => xs.length - 1
  | k + 1 => if xs.getD k 0 = l then smallTo xs l k &&& k else smallTo xs l k
def largeTo (xs : List Int) (l : Int) : Nat → Nat
  | 0 => 0
  | k + 1 => if xs.getD k 0 = l then largeTo xs l k ||| k else largeTo xs l k
def small (xs : List Int) : Nat := smallTo xs (low xs) xs.length
def large (xs : List Int) : Nat := largeTo xs (low xs) xs.length
def innerTo (xs : List Int) (g : Nat) : Nat → Int
  | 0 => xs.getD 0 0
  | k + 1 => if k &&& g = k then mn (innerTo xs g k) (xs.getD k 0) else innerTo xs g k
def inner (xs : List Int) (g : Nat) : Int := innerTo xs g xs.length
def outerTo (xs : List Int) (g : Nat) : Nat → Int
  | 0 => xs.getD (xs.length - 1) 0
  | k + 1 => if k &&& g = g then mn (outerTo xs g k) (xs.getD k 0) else outerTo xs g k
def outer (xs : List Int) (g : Nat) : Int := outerTo xs g xs.length

theorem smallTo_le (xs : List Int) (l : Int) (k : Nat) : smallTo xs l k ≤ xs.length - 1 := by
  induction k with
  | zero => exact Nat.le_refl _
  | succ k ih =>
    unfold smallTo
    split
    · exact Nat.le_trans Nat.and_le_left ih
    · exact ih
theorem largeTo_lt (xs : List Int) (l : Int) (n k : Nat) (hl : xs.length = 2 ^ n) (hk : k ≤ xs.length) : largeTo xs l k < xs.length := by
  induction k with
  | zero => show 0 < xs.length; rw [hl]; exact Nat.pow_pos (by omega)
  | succ k ih =>
    unfold largeTo
    split
    · rw [hl] at ih hk ⊢; exact Nat.or_lt_two_pow (ih (by omega)) (by omega)
    · exact ih (by omega)

/-- What Least returns. -/
def leastA (n : Int) (xs : List Int) : Int := if asked n xs = 0 then low xs else 0
def leastB (n : Int) (xs : List Int) : Nat := if asked n xs = 0 then small xs else 0
def leastC (n : Int) (xs : List Int) : Nat := if asked n xs = 0 then large xs else 0

theorem asked_zero {n : Int} {xs : List Int} (h : asked n xs = 0) : costOk n xs = true ∧ brkT xs = false := by
  unfold asked at h
  split at h
  · rename_i hc
    split at h
    · cases h
    · rename_i hb
      exact ⟨hc, by simpa using hb⟩
  · cases h
theorem asked_cases (n : Int) (xs : List Int) : (costOk n xs = false ∧ asked n xs = 2) ∨ (costOk n xs = true ∧ brkT xs = true ∧ asked n xs = 5) ∨ (costOk n xs = true ∧ brkT xs = false ∧ asked n xs = 0) := by
  unfold asked
  cases costOk n xs <;> cases brkT xs <;> simp

/-- One gardener comes: what he pays, and the group. -/
def gstep (xs : List Int) (s : List Int × Nat) (i : Nat) : List Int × Nat := (s.1.set i (xs.getD (s.2 ||| 2 ^ i) 0 - xs.getD s.2 0), s.2 ||| 2 ^ i)
def gTo (n : Nat) (xs : List Int) (ord : List Nat) (k : Nat) : List Int × Nat := (ord.take k).foldl (gstep xs) (List.replicate n 0, 0)
def greedyL (n : Nat) (xs : List Int) (ord : List Nat) : List Int := (gTo n xs ord ord.length).1
theorem gTo_succ (n : Nat) (xs : List Int) (ord : List Nat) (k : Nat) (hk : k < ord.length) : gTo n xs ord (k + 1) = gstep xs (gTo n xs ord k) (ord.getD k 0) := by
  unfold gTo
  rw [List.take_succ_eq_append_getElem hk, List.foldl_append]
  simp [List.getD_eq_getElem?_getD, hk]
theorem gTo_len (n : Nat) (xs : List Int) (ord : List Nat) (k : Nat) : (gTo n xs ord k).1.length = n := by
  unfold gTo
  generalize ord.take k = l
  suffices ∀ s : List Int × Nat, (l.foldl (gstep xs) s).1.length = s.1.length by simpa using this (List.replicate n 0, 0)
  induction l with
  | nil => intro s; rfl
  | cons a l ih => intro s; rw [List.foldl_cons, ih]; simp [gstep]
theorem gTo_lt (n : Nat) (xs : List Int) (ord : List Nat) (k : Nat) (h : ∀ j, j < ord.length → ord.getD j 0 < n) (hk : k ≤ ord.length) : (gTo n xs ord k).2 < 2 ^ n := by
  induction k with
  | zero => simp [gTo]; exact Nat.pow_pos (by omega)
  | succ k ih =>
    rw [gTo_succ n xs ord k (by omega)]
    exact Nat.or_lt_two_pow (ih (by omega)) (Nat.pow_lt_pow_right (by omega) (h k (by omega)))
theorem greedyL_len (n : Nat) (xs : List Int) (ord : List Nat) : (greedyL n xs ord).length = n := gTo_len _ _ _ _
end Go.Proofs.YtmepndnckcpgjaaGreat
