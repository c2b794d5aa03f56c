/- Walks: alive. -/
import Derived.Test.YtpehhbiodmgjeaaW12
import Derived.Test.YtpehhbiodmgjeaaW13
namespace Go.Proofs.Ytpehhbiodmgjeaa
open Go.RowKit

theorem Own.lit (w : World) (xs : List Int) : Own (w.alloc (.cells (xs.map (Value.int .i64)).toArray 3)) w.heap.size xs := heap_alloc_new w _

theorem c38 (A B : Option Addr) (c d : Nat) (w : World) (h1 : Ints w A 4 [0, 3, 4, 5]) (h2 : Ints w B 2 [1, 0]) :
    Calls Try.prog 38 #[.int .i64 2, .slice A 4 c, .slice B 2 d] w fun e w' => ∃ A' c', e = .returned (.tuple #[.slice A' 2 c', .int .i64 0]) ∧ Ints w' A' 2 [1, 4] ∧ Below w.heap.size w w' := by
  refine (f38_any A B 2 4 c 2 d _ _ w h1 h2).mono ?_
  rintro e w' ⟨A', k, c', rfl, hi, hb⟩
  have e1 : greedyErr 2 [0, 3, 4, 5] [1, 0] = 0 := by decide +kernel
  have e2 : greedyR 2 [0, 3, 4, 5] [1, 0] = [1, 4] := by decide +kernel
  rw [e1]
  rw [e2] at hi
  obtain rfl : k = 2 := hi.len.symm
  exact ⟨A', c', rfl, hi, hb⟩
theorem c16 (A : Option Addr) (c : Nat) (w : World) (h1 : Ints w A 4 [0, -2, 1, -3]) :
    Calls Try.prog 16 #[.int .i64 2, .slice A 4 c] w fun e w' => e = .returned (.tuple #[.int .i64 (-3), .int .i64 3, .int .i64 3, .int .i64 0]) ∧ Below w.heap.size w w' := by
  refine (f16_any A 2 4 c _ w h1).mono ?_
  rintro e w' ⟨rfl, hb⟩
  have e1 : leastA 2 [0, -2, 1, -3] = -3 := by decide +kernel
  have e2 : leastB 2 [0, -2, 1, -3] = 3 := by decide +kernel
  have e3 : leastC 2 [0, -2, 1, -3] = 3 := by decide +kernel
  have e4 : asked 2 [0, -2, 1, -3] = 0 := by decide +kernel
  rw [e1, e2, e3, e4]
  exact ⟨rfl, hb⟩
theorem c18 (A : Option Addr) (c : Nat) (w : World) (h1 : Ints w A 4 [0, -2, 1, -3]) :
    Calls Try.prog 18 #[.int .i64 2, .slice A 4 c] w fun e w' => ∃ A' c', e = .returned (.tuple #[.slice A' 2 c', .int .i64 0]) ∧ Ints w' A' 2 [-3, 0] ∧ Below w.heap.size w w' := by
  refine (f18_any A 2 4 c _ w h1).mono ?_
  rintro e w' ⟨A', k, c', rfl, hi, hb⟩
  have e1 : proofErr 2 [0, -2, 1, -3] = 0 := by decide +kernel
  have e2 : proofR 2 [0, -2, 1, -3] = [-3, 0] := by decide +kernel
  rw [e1]
  rw [e2] at hi
  obtain rfl : k = 2 := hi.len.symm
  exact ⟨A', c', rfl, hi, hb⟩
theorem c33 (A B : Option Addr) (c d : Nat) (w : World) (h1 : Ints w A 4 [0, 3, 4, 5]) (h2 : Ints w B 2 [2, 1]) :
    Calls Try.prog 33 #[.int .i64 2, .slice A 4 c, .slice B 2 d] w fun e w' => e = .returned (.tuple #[.int .i64 8, .int .i64 0]) ∧ Below w.heap.size w w' := by
  refine (f33_any A B 2 4 c 2 d _ _ w h1 h2).mono ?_
  have e1 : fillsR 2 [0, 3, 4, 5] [2, 1] = 8 := by decide +kernel
  have e2 : fillsErr 2 [0, 3, 4, 5] [2, 1] = 0 := by decide +kernel
  rw [e1, e2]
  exact fun e w' h => h

theorem lit1 (w : World) (xs : List Int) (h : xs.length ≤ 100) : Ints (w.alloc (.cells (xs.map (Value.int .i64)).toArray 3)) (some ⟨w.heap.size, 0, none⟩) xs.length xs :=
  (Own.lit w xs).ints (by omega)
theorem lit2a (w : World) (o : Obj) (xs : List Int) (h : xs.length ≤ 100) : Ints ((w.alloc (.cells (xs.map (Value.int .i64)).toArray 3)).alloc o) (some ⟨w.heap.size, 0, none⟩) xs.length xs :=
  ((Own.lit w xs).alloc o).ints (by omega)
theorem lit2b (w : World) (o : Obj) (xs : List Int) (h : xs.length ≤ 100) : Ints ((w.alloc o).alloc (.cells (xs.map (Value.int .i64)).toArray 3)) (some ⟨w.heap.size + 1, 0, none⟩) xs.length xs := by
  have e : (w.alloc o).heap.size = w.heap.size + 1 := by simp
  have h1 := Own.lit (w.alloc o) xs
  rw [e] at h1
  exact h1.ints (by omega)
theorem below_alloc2 (w : World) (o p : Obj) : Below w.heap.size w ((w.alloc o).alloc p) := (below_alloc w o).alloc (by simp) p
theorem below_draw {w w' : World} (h : ∃ k, w' = w.drewN k) : Below w.heap.size w w' := by obtain ⟨k, rfl⟩ := h; exact below_drewN (Below.refl _ _) k

set_option maxHeartbeats 2000000 in
/-- dibberlaw08.alive -/
theorem f15_any (w : World) : Calls Try.prog 15 #[] w fun e w' => e = .returned (.bool true) ∧ Below w.heap.size w w' := by
  go_enter Try.func15, Try.ntmps15
  go_wp2_with fail
  refine (c38 _ _ _ _ _ (lit2a w _ [0, 3, 4, 5] (by decide)) (lit2b w _ [1, 0] (by decide))).mono ?_
  rintro e w1 ⟨A1, c1, rfl, hi1, hb1⟩
  have H1 := Lib.hid hi1
  have B1 := Lib.hid (below_step (below_alloc2 w _ _) hb1)
  clear hi1 hb1
  go_wp2_with fail
  refine (c16 _ _ _ (lit1 w1 [0, -2, 1, -3] (by decide))).mono ?_
  rintro e w2 ⟨rfl, hb2⟩
  have B2 := Lib.hid (below_step B1.out (below_step (below_alloc w1 _) hb2))
  have H2 := Lib.hid ((H1.out.below (below_alloc w1 _)).below hb2)
  clear hb2
  go_wp2_with fail
  refine (c18 _ _ _ (lit1 w2 [0, -2, 1, -3] (by decide))).mono ?_
  rintro e w3 ⟨A3, c3, rfl, hi3, hb3⟩
  have B3 := Lib.hid (below_step B2.out (below_step (below_alloc w2 _) hb3))
  have H3 := Lib.hid ((H2.out.below (below_alloc w2 _)).below hb3)
  have K3 := Lib.hid hi3
  clear hi3 hb3
  go_wp2_with fail
  refine (c33 _ _ _ _ _ (lit2a w3 _ [0, 3, 4, 5] (by decide)) (lit2b w3 _ [2, 1] (by decide))).mono ?_
  rintro e w4 ⟨rfl, hb4⟩
  have hb5 := below_step (below_alloc2 w3 _ _) hb4
  have B4 := Lib.hid (below_step B3.out hb5)
  have H4 := Lib.hid (H3.out.below hb5)
  have K4 := Lib.hid (K3.out.below hb5)
  clear hb4 hb5
  go_wp2_with fail
  refine (f20_any _ _ _ _ _ _ _ _ _ (H4.out.below (below_alloc w4 _)) (lit1 w4 [1, 4] (by decide))).mono ?_
  rintro e w5 ⟨rfl, hd5⟩
  have hb5 := below_step (below_alloc w4 _) (below_draw hd5)
  have B5 := Lib.hid (below_step B4.out hb5)
  have K5 := Lib.hid (K4.out.below hb5)
  clear hb5 hd5
  go_wp2_with fail
  refine (f20_any _ _ _ _ _ _ _ _ _ (K5.out.below (below_alloc w5 _)) (lit1 w5 [-3, 0] (by decide))).mono ?_
  rintro e w6 ⟨rfl, hd6⟩
  have B6 := Lib.hid (below_step B5.out (below_step (below_alloc w5 _) (below_draw hd6)))
  clear hd6
  go_wp2_with fail
  go_ret
  exact ⟨rfl, B6.out⟩
end Go.Proofs.Ytpehhbiodmgjeaa
