/- Plain laws: sharings: what groups pay, the first group that pays too much, what is paid below 0. No condition. -/
import Derived.Test.YtpehhbiodmgjeaaPlain3
namespace Go.Proofs.Ytpehhbiodmgjeaa

def outS (x : Int) : Bool := decide (x < -6000000) || decide (6000000 < x)
def shOk (n : Nat) (l : List Int) : Bool := decide (l.length = n) && !l.any outS
theorem shOk_facts {n : Nat} {l : List Int} (h : shOk n l = true) : l.length = n ∧ ∀ j, -6000000 ≤ l.getD j 0 ∧ l.getD j 0 ≤ 6000000 := by
  unfold shOk at h
  simp only [Bool.and_eq_true, decide_eq_true_eq, Bool.not_eq_true', List.any_eq_false] at h
  refine ⟨h.1, fun j => ?_⟩
  by_cases hj : j < l.length
  · have := h.2 _ (List.getElem_mem hj)
    simp only [outS, Bool.or_eq_true, decide_eq_true_eq, not_or] at this
    simp only [List.getD_eq_getElem?_getD, List.getElem?_eq_getElem hj, Option.getD_some]
    omega
  · simp only [List.getD_eq_getElem?_getD, List.getElem?_eq_none (by omega : l.length ≤ j), Option.getD_none]
    omega
theorem shOk_mk {n : Nat} {l : List Int} (hl : l.length = n) (h : ∀ j, j < n → -6000000 ≤ l.getD j 0 ∧ l.getD j 0 ≤ 6000000) : shOk n l = true := by
  unfold shOk
  simp only [Bool.and_eq_true, decide_eq_true_eq, Bool.not_eq_true', List.any_eq_false]
  refine ⟨hl, fun x hx => ?_⟩
  obtain ⟨j, hj, rfl⟩ := List.getElem_of_mem hx
  have := h j (by omega)
  simp only [List.getD_eq_getElem?_getD, List.getElem?_eq_getElem hj, Option.getD_some] at this
  simp only [outS, Bool.or_eq_true, decide_eq_true_eq, not_or]
  omega
theorem shOk_bad {n : Nat} {l : List Int} (j : Nat) (hj : j < l.length) (h : outS (l.getD j 0) = true) : shOk n l = false := by
  unfold shOk
  have : l.any outS = true := by
    rw [List.any_eq_true]
    refine ⟨l[j], List.getElem_mem hj, ?_⟩
    simpa [List.getD_eq_getElem?_getD, hj] using h
  rw [this]; simp

/-- What the first k of a group pay. -/
def payTo (l : List Int) (g : Nat) : Nat → Int
  | 0 => 0
  | k + 1 => payTo l g k + if g.testBit k then l.getD k 0 else 0
def pay (l : List Int) (g : Nat) : Int := payTo l g l.length
theorem payTo_in (l : List Int) (g k : Nat) (h : ∀ j, -6000000 ≤ l.getD j 0 ∧ l.getD j 0 ≤ 6000000) : -6000000 * (k : Int) ≤ payTo l g k ∧ payTo l g k ≤ 6000000 * (k : Int) := by
  induction k with
  | zero => simp [payTo]
  | succ k ih =>
    have h1 := h k
    have e : payTo l g (k + 1) = payTo l g k + if g.testBit k then l.getD k 0 else 0 := rfl
    rw [e]
    split <;> omega
def belowTo (l : List Int) : Nat → Int
  | 0 => 0
  | k + 1 => belowTo l k + mn (l.getD k 0) 0
def belowS (l : List Int) : Int := belowTo l l.length
theorem mn_comm (a b : Int) : mn a b = mn b a := by unfold mn; split <;> split <;> omega
theorem belowTo_in (l : List Int) (k : Nat) (h : ∀ j, -6000000 ≤ l.getD j 0 ∧ l.getD j 0 ≤ 6000000) : -6000000 * (k : Int) ≤ belowTo l k ∧ belowTo l k ≤ 0 := by
  induction k with
  | zero => simp [belowTo]
  | succ k ih =>
    have h1 := h k
    have e : belowTo l (k + 1) = belowTo l k + mn (l.getD k 0) 0 := rfl
    rw [e]
    unfold mn
    split <;> omega
/-- The first group that pays more than its cost; below 0: there is none. -/
def overO (xs l : List Int) : Option Nat := (List.range xs.length).find? fun g => decide (xs.getD g 0 < pay l g)
def overI (xs l : List Int) : Int := match overO xs l with | some g => (g : Int) | none => -1
theorem overI_hit {xs l : List Int} {g : Nat} (hg : g < xs.length) (h : xs.getD g 0 < pay l g) (hb : ∀ j, j < g → ¬ xs.getD j 0 < pay l j) : overI xs l = g := by
  have : overO xs l = some g := by
    unfold overO
    rw [range_split xs.length g hg, find_append_none]
    · rw [List.find?_cons_of_pos (by simpa using h)]
    · intro x hx
      rw [List.mem_range] at hx
      exact decide_eq_false (hb x hx)
  unfold overI; rw [this]
theorem overI_miss {xs l : List Int} (hb : ∀ j, j < xs.length → ¬ xs.getD j 0 < pay l j) : overI xs l = -1 := by
  have : overO xs l = none := by
    unfold overO
    rw [List.find?_eq_none]
    intro x hx
    rw [List.mem_range] at hx
    simpa using hb x hx
  unfold overI; rw [this]
theorem overI_neg {xs l : List Int} (h : overI xs l < 0) (g : Nat) (hg : g < xs.length) : pay l g ≤ xs.getD g 0 := by
  unfold overI at h
  cases ho : overO xs l with
  | some g' => rw [ho] at h; simp at h; omega
  | none =>
    unfold overO at ho
    rw [List.find?_eq_none] at ho
    have := ho g (List.mem_range.2 hg)
    simp only [decide_eq_true_eq] at this
    omega
theorem overI_cases (xs l : List Int) : overI xs l = -1 ∨ ∃ g : Nat, overI xs l = g ∧ g < xs.length ∧ xs.getD g 0 < pay l g := by
  unfold overI
  cases ho : overO xs l with
  | none => exact .inl rfl
  | some g =>
    refine .inr ⟨g, rfl, ?_⟩
    unfold overO at ho
    have h1 := List.mem_of_find?_eq_some ho
    have h2 := List.find?_some ho
    rw [List.mem_range] at h1
    exact ⟨h1, by simpa using h2⟩
/-- All pay what is to be paid, and no group pays more than its cost. -/
def isFair (xs l : List Int) : Bool := decide (overI xs l < 0) && (pay l (xs.length - 1) == xs.getD (xs.length - 1) 0)
def fairErr (n : Int) (xs l : List Int) : Int := if costOk n xs && shOk n.toNat l then 0 else 2
def fairG (n : Int) (xs l : List Int) : Int := if costOk n xs && shOk n.toNat l then (if overI xs l < 0 then (xs.length : Int) - 1 else overI xs l) else 0
def fairB (n : Int) (xs l : List Int) : Bool := costOk n xs && shOk n.toNat l && isFair xs l
def provesErr (n : Int) (xs l : List Int) : Int := if asked n xs = 0 then (if shOk n.toNat l then 0 else 2) else asked n xs
def provesB (n : Int) (xs l : List Int) : Bool := decide (asked n xs = 0) && shOk n.toNat l && isFair xs l
def provesS (n : Int) (xs l : List Int) : Int := if provesB n xs l then belowS l else 0
end Go.Proofs.Ytpehhbiodmgjeaa
