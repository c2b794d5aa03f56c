/- Walks: same, few. -/
import Derived.Test.YtmepndnckcpgjaaGreatBase3
import Derived.Test.YtmepndnckcpgjaaGreatW10
namespace Go.Proofs.YtmepndnckcpgjaaGreat
open Go.RowKit

theorem getD_ext {xs ys : List Int} (hl : xs.length = ys.length) (h : ∀ j, j < xs.length → xs.getD j 0 = ys.getD j 0) : xs = ys := by
  apply List.ext_getElem hl
  intro i h1 h2
  have := h i h1
  simpa [List.getD_eq_getElem?_getD, h1, h2] using this

/-- A slice of slices of which the lengths are told. -/
def Lens (w : World) (A : Option Addr) (ls : List Nat) : Prop :=
  ls.length ≤ 17592186044415 ∧ (0 < ls.length → ∃ b off, A = some ⟨b, off, none⟩ ∧ ∀ j, j < ls.length → ∃ B c, w.cell? ⟨b, off + j, none⟩ = some (.slice B (ls.getD j 0) c)) ∧ ∀ j, ls.getD j 0 ≤ 9223372036854775807
def fewB (ls : List Nat) : Bool := ls.all fun l => decide (l ≤ 100)
theorem fewB_bad (ls : List Nat) (k : Nat) (hk : k < ls.length) (h : 100 < ls.getD k 0) : fewB ls = false := by
  unfold fewB
  rw [List.all_eq_false]
  refine ⟨ls[k], List.getElem_mem hk, ?_⟩
  simp [List.getD_eq_getElem?_getD, hk] at h
  simpa using h
theorem fewB_all (ls : List Nat) (h : ∀ j, j < ls.length → ls.getD j 0 ≤ 100) : fewB ls = true := by
  unfold fewB
  rw [List.all_eq_true]
  intro x hx
  obtain ⟨j, hj, rfl⟩ := List.getElem_of_mem hx
  have := h j hj
  simp [List.getD_eq_getElem?_getD, hj] at this
  simpa using this

end Go.Proofs.YtmepndnckcpgjaaGreat
