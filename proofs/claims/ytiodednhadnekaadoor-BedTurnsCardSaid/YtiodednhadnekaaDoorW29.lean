/- Walks: alive. -/
import Derived.Test.YtiodednhadnekaaDoorW28
namespace Go.Proofs.YtiodednhadnekaaDoor
open Go.RowKit Go.Deep

def cyc3 : List (List Int) := [[0, 1, 2], [1, 2, 0], [2, 0, 1]]
def mat3 : List (List Int) := [[0, 1, 2], [2, 0, 1], [1, 2, 0]]
def bed3 : List (List Int) := [[0, -1, -1], [-1, -1, 0], [-1, -1, -1]]
theorem cyc3_is : cycL 3 1 = cyc3 := by decide
theorem mate3 : mateL cyc3 = mat3 := by decide +kernel
theorem mateE3 : mateE cyc3 = 0 := by
  unfold mateE
  rw [if_pos (by unfold mateOk; decide +kernel), if_neg (by rw [mate3]; decide)]
theorem tr3 : trN cyc3 = 3 ∧ trE cyc3 = 0 := by decide +kernel
theorem cyc3_full : IsFull 3 cyc3 := (fullB_iff.1 (show fullB cyc3 = true by decide +kernel)).2.2
theorem can_at {b : List (List Int)} (h : ∀ r, r < 3 → ∀ c, c < 3 → 0 ≤ gAt b r c → gAt cyc3 r c = gAt b r c) : canB 3 b = true := by
  unfold canB
  exact decide_eq_true (cnt_pos.2 ⟨cyc3, cyc3_full, fun r c hr hc => h r hr c hc⟩)
theorem fill3 : fillTo 3 bed3 3 = cyc3 := by
  have k00 : fillStep 3 bed3 0 0 = bed3 := fillStep_keep (by decide)
  have k01 : fillStep 3 bed3 0 1 = [[0, 1, -1], [-1, -1, 0], [-1, -1, -1]] := fillStep_hit (pre := []) (suf := [2]) (x := 1) (by decide) (by decide) (by simp) (can_at (by decide))
  have k02 : fillStep 3 [[0, 1, -1], [-1, -1, 0], [-1, -1, -1]] 0 2 = [[0, 1, 2], [-1, -1, 0], [-1, -1, -1]] := fillStep_hit (pre := []) (suf := []) (x := 2) (by decide) (by decide) (by simp) (can_at (by decide))
  have k10 : fillStep 3 [[0, 1, 2], [-1, -1, 0], [-1, -1, -1]] 1 0 = [[0, 1, 2], [1, -1, 0], [-1, -1, -1]] := fillStep_hit (pre := []) (suf := [2]) (x := 1) (by decide) (by decide) (by simp) (can_at (by decide))
  have k11 : fillStep 3 [[0, 1, 2], [1, -1, 0], [-1, -1, -1]] 1 1 = [[0, 1, 2], [1, 2, 0], [-1, -1, -1]] := fillStep_hit (pre := []) (suf := []) (x := 2) (by decide) (by decide) (by simp) (can_at (by decide))
  have k12 : fillStep 3 [[0, 1, 2], [1, 2, 0], [-1, -1, -1]] 1 2 = [[0, 1, 2], [1, 2, 0], [-1, -1, -1]] := fillStep_keep (by decide)
  have k20 : fillStep 3 [[0, 1, 2], [1, 2, 0], [-1, -1, -1]] 2 0 = [[0, 1, 2], [1, 2, 0], [2, -1, -1]] := fillStep_hit (pre := []) (suf := []) (x := 2) (by decide) (by decide) (by simp) (can_at (by decide))
  have k21 : fillStep 3 [[0, 1, 2], [1, 2, 0], [2, -1, -1]] 2 1 = [[0, 1, 2], [1, 2, 0], [2, 0, -1]] := fillStep_hit (pre := []) (suf := []) (x := 0) (by decide) (by decide) (by simp) (can_at (by decide))
  have k22 : fillStep 3 [[0, 1, 2], [1, 2, 0], [2, 0, -1]] 2 2 = [[0, 1, 2], [1, 2, 0], [2, 0, 1]] := fillStep_hit (pre := []) (suf := []) (x := 1) (by decide) (by decide) (by simp) (can_at (by decide))
  show fillStep 3 (fillStep 3 (fillStep 3 (fillStep 3 (fillStep 3 (fillStep 3 (fillStep 3 (fillStep 3 (fillStep 3 bed3 0 0) 0 1) 0 2) 1 0) 1 1) 1 2) 2 0) 2 1) 2 2 = cyc3
  rw [k00, k01, k02, k10, k11, k12, k20, k21, k22]
  rfl
theorem fillLE3 : fillL bed3 = cyc3 ∧ fillE bed3 = 0 := by
  have h1 : bedB bed3 = true := by decide +kernel
  have h2 : canB bed3.length bed3 = true := can_at (by decide)
  unfold fillL fillE
  rw [if_pos h1, if_pos h2, if_pos h1, if_pos h2]
  exact ⟨fill3, rfl⟩
theorem ints3 {w : World} {g : Nat} {x y z : Int} (h : w.heap[g]? = some (.cells #[.int .i64 x, .int .i64 y, .int .i64 z] 3 (0, 0))) : Ints w (some ⟨g, 0, none⟩) 3 [x, y, z] :=
  Own.ints' (xs := [x, y, z]) h rfl (by omega)
/-- Three rows of three numbers that are laid down. -/
theorem lit3 (w : World) (a b c d e f g h i : Int) : ∃ wz, wz = ((((w.alloc (.cells #[.int .i64 a, .int .i64 b, .int .i64 c] 3)).alloc (.cells #[.int .i64 d, .int .i64 e, .int .i64 f] 3)).alloc (.cells #[.int .i64 g, .int .i64 h, .int .i64 i] 3)).alloc (.cells #[.slice (some ⟨w.heap.size, 0, none⟩) 3 3, .slice (some ⟨w.heap.size + 1, 0, none⟩) 3 3, .slice (some ⟨w.heap.size + 1 + 1, 0, none⟩) 3 3] 29)) ∧ Below w.heap.size w wz ∧ Beds wz (some ⟨w.heap.size + 1 + 1 + 1, 0, none⟩) 3 3 [[a, b, c], [d, e, f], [g, h, i]] := by
  have s1 : (w.alloc (.cells #[.int .i64 a, .int .i64 b, .int .i64 c] 3)).heap.size = w.heap.size + 1 := by simp
  have a1 : (w.alloc (.cells #[.int .i64 a, .int .i64 b, .int .i64 c] 3)).heap[w.heap.size]? = some (.cells #[.int .i64 a, .int .i64 b, .int .i64 c] 3 (0, 0)) := heap_alloc_new w _
  obtain ⟨w1, hw1⟩ : ∃ z, z = w.alloc (.cells #[.int .i64 a, .int .i64 b, .int .i64 c] 3) := ⟨_, rfl⟩
  have b1 : Below w.heap.size w w1 := by rw [hw1]; exact below_alloc w _
  rw [← hw1] at s1 a1 ⊢
  have s2 : (w1.alloc (.cells #[.int .i64 d, .int .i64 e, .int .i64 f] 3)).heap.size = w.heap.size + 1 + 1 := by simp [s1]
  have a2 : (w1.alloc (.cells #[.int .i64 d, .int .i64 e, .int .i64 f] 3)).heap[w.heap.size + 1]? = some (.cells #[.int .i64 d, .int .i64 e, .int .i64 f] 3 (0, 0)) := by rw [← s1]; exact heap_alloc_new w1 _
  have a12 := (Below.heap_alloc w1 (.cells #[.int .i64 d, .int .i64 e, .int .i64 f] 3) w.heap.size (by omega)).trans a1
  obtain ⟨w2, hw2⟩ : ∃ z, z = w1.alloc (.cells #[.int .i64 d, .int .i64 e, .int .i64 f] 3) := ⟨_, rfl⟩
  have b2 : Below w.heap.size w w2 := by rw [hw2]; exact b1.alloc (by omega) _
  rw [← hw2] at s2 a2 a12 ⊢
  have s3 : (w2.alloc (.cells #[.int .i64 g, .int .i64 h, .int .i64 i] 3)).heap.size = w.heap.size + 1 + 1 + 1 := by simp [s2]
  have a3 : (w2.alloc (.cells #[.int .i64 g, .int .i64 h, .int .i64 i] 3)).heap[w.heap.size + 1 + 1]? = some (.cells #[.int .i64 g, .int .i64 h, .int .i64 i] 3 (0, 0)) := by rw [← s2]; exact heap_alloc_new w2 _
  have a13 := (Below.heap_alloc w2 (.cells #[.int .i64 g, .int .i64 h, .int .i64 i] 3) w.heap.size (by omega)).trans a12
  have a23 := (Below.heap_alloc w2 (.cells #[.int .i64 g, .int .i64 h, .int .i64 i] 3) (w.heap.size + 1) (by omega)).trans a2
  obtain ⟨w3, hw3⟩ : ∃ z, z = w2.alloc (.cells #[.int .i64 g, .int .i64 h, .int .i64 i] 3) := ⟨_, rfl⟩
  have b3 : Below w.heap.size w w3 := by rw [hw3]; exact b2.alloc (by omega) _
  rw [← hw3] at s3 a3 a13 a23 ⊢
  obtain ⟨ob, hob⟩ : ∃ z, z = Obj.cells #[.slice (some ⟨w.heap.size, 0, none⟩) 3 3, .slice (some ⟨w.heap.size + 1, 0, none⟩) 3 3, .slice (some ⟨w.heap.size + 1 + 1, 0, none⟩) 3 3] 29 := ⟨_, rfl⟩
  rw [← hob]
  have a4 : (w3.alloc ob).heap[w.heap.size + 1 + 1 + 1]? = some ob := by rw [← s3]; exact heap_alloc_new w3 _
  have a14 := (Below.heap_alloc w3 ob w.heap.size (by omega)).trans a13
  have a24 := (Below.heap_alloc w3 ob (w.heap.size + 1) (by omega)).trans a23
  have a34 := (Below.heap_alloc w3 ob (w.heap.size + 1 + 1) (by omega)).trans a3
  obtain ⟨w4, hw4⟩ : ∃ z, z = w3.alloc ob := ⟨_, rfl⟩
  have b4 : Below w.heap.size w w4 := by rw [hw4]; exact b3.alloc (by omega) _
  rw [← hw4] at a4 a14 a24 a34 ⊢
  rw [hob] at a4
  refine ⟨_, rfl, b4, rfl, by omega, by omega, fun h => (by cases h), fun _ => ⟨_, 0, rfl, fun j hj => ?_⟩⟩
  have hj3 : j = 0 ∨ j = 1 ∨ j = 2 := by omega
  rcases hj3 with rfl | rfl | rfl
  · exact ⟨_, 3, by rw [cell_of_row _ _ _ _ _ _ a4]; rfl, Nat.le_refl _, fun h => (by cases h), ints3 a14⟩
  · exact ⟨_, 3, by rw [cell_of_row _ _ _ _ _ _ a4]; rfl, Nat.le_refl _, fun h => (by cases h), ints3 a24⟩
  · exact ⟨_, 3, by rw [cell_of_row _ _ _ _ _ _ a4]; rfl, Nat.le_refl _, fun h => (by cases h), ints3 a34⟩
end Go.Proofs.YtiodednhadnekaaDoor
