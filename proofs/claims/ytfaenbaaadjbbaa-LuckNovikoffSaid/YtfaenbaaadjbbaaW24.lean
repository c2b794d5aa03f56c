/- Walks: Weighing, whatever the record; alive. -/
import Derived.Test.YtfaenbaaadjbbaaW23
namespace Go.Proofs.Ytfaenbaaadjbbaa
open Go.RowKit

set_option maxRecDepth 100000 in
set_option maxHeartbeats 1000000 in
/-- luck.Weighing -/
theorem f31_any (A B : Option Addr) (n : Int) (k c m d : Nat) (said : List (List Int)) (came : List Int) (w : World) (hs : IntsS w A k said) (ho : Ints w B m came) :
    Calls Try.prog 31 #[.int .i64 n, .slice A k c, .slice B m d] w (SlSl w (tellW n said came) (timesW n said came) (recErr n said came)) := by
  by_cases h0 : recErr n said came = 0
  · obtain ⟨N, rfl, h1, h2, h3, h4, h5, _⟩ := recErr_facts h0
    have hk := hs.len
    have hm := ho.len
    obtain rfl : m = k := by omega
    have e1 : tellW N said came = toldL (weighF said came N) m := by unfold tellW; rw [if_pos h0, Int.toNat_natCast, hk]
    have e2 : timesW N said came = wrL said came N m := by unfold timesW; rw [if_pos h0, Int.toNat_natCast, hk]
    rw [e1, e2, h0]
    exact f31_good A B N m c d said came w hs ho h0 h1 h2 (by omega) (fun i hi => (h5 i (by omega)).1)
  · have e1 : tellW n said came = [] := by unfold tellW; rw [if_neg h0]
    have e2 : timesW n said came = [] := by unfold timesW; rw [if_neg h0]
    rw [e1, e2]
    have k60 := Lib.hid (f60_any A B n k c m d said came w hs ho)
    generalize recErr n said came = er at *
    have hq : (er != 0) = true := by simpa using h0
    clear hs ho h0 e1 e2
    go_enter Try.func31, Try.ntmps31
    go_wp2_with fail
    refine k60.out.mono ?_
    rintro e w1 ⟨rfl, hb⟩
    have HB := Lib.hid hb
    clear hb
    go_wp2
    go_ret3
    exact ⟨_, _, _, _, _, _, rfl, Ints.nil _ _, Ints.nil _ _, HB.out⟩

theorem Own.lit (w : World) (xs : List Int) : Own (w.alloc (.cells (xs.map (Value.int .i64)).toArray 3)) w.heap.size xs := heap_alloc_new w _
theorem size_alloc (w : World) (o : Obj) : (w.alloc o).heap.size = w.heap.size + 1 := by simp
theorem row_alloc (w : World) (o : Obj) {b : Nat} {x : Obj} (h : w.heap[b]? = some x) : (w.alloc o).heap[b]? = some x := (Below.heap_alloc w o b (heap_lt h)).trans h
/-- A list of lists that was just written down. -/
theorem lits {w : World} {g k : Nat} {xss : List (List Int)} {vs : Array Value} (hk : xss.length = k) (hk2 : k ≤ 100) (hg : w.heap[g]? = some (.cells vs 31 (0, 0)))
    (h : ∀ j, j < k → ∃ b c, vs[j]? = some (.slice (some ⟨b, 0, none⟩) (xss.getD j []).length c) ∧ Own w b (xss.getD j []) ∧ (xss.getD j []).length ≤ 100) : IntsS w (some ⟨g, 0, none⟩) k xss :=
  ⟨hk, by omega, fun _ => ⟨g, 0, rfl, fun j hj => by
    obtain ⟨b, c, h1, h2, h3⟩ := h j hj
    refine ⟨some ⟨b, 0, none⟩, c, ?_, h2.ints (by omega)⟩
    rw [Nat.zero_add, cell_of_row w g j vs 31 (0, 0) hg]; exact h1⟩⟩
def wA (w : World) : World := (((w.alloc (.cells #[.int .i64 0, .int .i64 1] 3)).alloc (.cells #[.int .i64 0, .int .i64 1] 3)).alloc (.cells #[.slice (some ⟨w.heap.size, 0, none⟩) 2 2, .slice (some ⟨w.heap.size + 1, 0, none⟩) 2 2] 31)).alloc (.cells #[.int .i64 1, .int .i64 1] 3)
theorem wA_below (w : World) : Below w.heap.size w (wA w) :=
  (((below_alloc w _).alloc (by simp) _).alloc (by simp; omega) _).alloc (by simp; omega) _
theorem own_at {w : World} {g h : Nat} {xs : List Int} (ho : Own w g xs) (e : g = h) : Own w h xs := by subst e; exact ho
theorem wA_said (w : World) : IntsS (wA w) (some ⟨w.heap.size + 1 + 1, 0, none⟩) 2 [[0, 1], [0, 1]] := by
  have o1 : Own (wA w) w.heap.size [0, 1] := (((Own.lit w [0, 1]).alloc _).alloc _).alloc _
  have o2 : Own (wA w) (w.heap.size + 1) [0, 1] := own_at (((Own.lit (w.alloc _) [0, 1]).alloc _).alloc _) (size_alloc w _)
  have hz : ((w.alloc (.cells #[.int .i64 0, .int .i64 1] 3)).alloc (.cells #[.int .i64 0, .int .i64 1] 3)).heap.size = w.heap.size + 1 + 1 := by simp
  have h3 : (wA w).heap[w.heap.size + 1 + 1]? = some (.cells #[.slice (some ⟨w.heap.size, 0, none⟩) 2 2, .slice (some ⟨w.heap.size + 1, 0, none⟩) 2 2] 31 (0, 0)) := by
    rw [← hz]; exact row_alloc _ _ (heap_alloc_new _ _)
  exact lits rfl (by omega) h3 fun j hj => by
    match j, hj with
    | 0, _ => exact ⟨_, 2, rfl, o1, by simp⟩
    | 1, _ => exact ⟨_, 2, rfl, o2, by simp⟩
theorem wA_came (w : World) : Ints (wA w) (some ⟨w.heap.size + 1 + 1 + 1, 0, none⟩) 2 [1, 1] := by
  have hz : (((w.alloc (.cells #[.int .i64 0, .int .i64 1] 3)).alloc (.cells #[.int .i64 0, .int .i64 1] 3)).alloc (.cells #[.slice (some ⟨w.heap.size, 0, none⟩) 2 2, .slice (some ⟨w.heap.size + 1, 0, none⟩) 2 2] 31)).heap.size = w.heap.size + 1 + 1 + 1 := by simp
  have := own_at (Own.lit (((w.alloc (.cells #[.int .i64 0, .int .i64 1] 3)).alloc (.cells #[.int .i64 0, .int .i64 1] 3)).alloc (.cells #[.slice (some ⟨w.heap.size, 0, none⟩) 2 2, .slice (some ⟨w.heap.size + 1, 0, none⟩) 2 2] 31)) [1, 1]) hz
  exact this.ints (by simp)
theorem c31 (w : World) : Calls Try.prog 31 #[.int .i64 2, .slice (some ⟨w.heap.size + 1 + 1, 0, none⟩) 2 2, .slice (some ⟨w.heap.size + 1 + 1 + 1, 0, none⟩) 2 2] (wA w) fun e w' => ∃ A c A' c', e = .returned (.tuple #[.slice A 2 c, .slice A' 2 c', .int .i64 0]) ∧ Ints w' A 2 [0, 1] ∧ Ints w' A' 2 [2, 0] ∧ Below w.heap.size w w' := by
  refine (f31_any _ _ 2 2 2 2 2 _ _ _ (wA_said w) (wA_came w)).mono ?_
  rintro e w' ⟨A, k, c, A', k', c', rfl, h1, h2, hb⟩
  have e0 : recErr 2 [[0, 1], [0, 1]] [1, 1] = 0 := by decide +kernel
  have e1 : tellW 2 [[0, 1], [0, 1]] [1, 1] = [0, 1] := by decide +kernel
  have e2 : timesW 2 [[0, 1], [0, 1]] [1, 1] = [2, 0] := by decide +kernel
  rw [e0]
  rw [e1] at h1
  rw [e2] at h2
  obtain rfl : k = 2 := h1.len.symm
  obtain rfl : k' = 2 := h2.len.symm
  exact ⟨_, _, _, _, rfl, h1, h2, below_step (wA_below w) hb⟩
theorem lit1 (w : World) (xs : List Int) (h : xs.length ≤ 100) : Ints (w.alloc (.cells (xs.map (Value.int .i64)).toArray 3)) (some ⟨w.heap.size, 0, none⟩) xs.length xs :=
  (Own.lit w xs).ints (by omega)
theorem c22 (w : World) : Calls Try.prog 22 #[.int .i64 1, .slice (some ⟨w.heap.size, 0, none⟩) 2 2] (w.alloc (.cells #[.int .i64 29, .int .i64 30] 3)) fun e w' => e = .returned (.tuple #[.int .i64 0, .int .i64 0]) ∧ Below w.heap.size w w' := by
  refine (f22_any _ 1 2 2 _ _ (lit1 w [29, 30] (by simp))).mono ?_
  rintro e w' ⟨rfl, hb⟩
  have e1 : canR 1 [29, 30] = 0 := by decide +kernel
  have e2 : canE 1 [29, 30] = 0 := by decide +kernel
  rw [e1, e2]
  exact ⟨rfl, below_step (below_alloc _ _) hb⟩
theorem c23 (w : World) : Calls Try.prog 23 #[.int .i64 1, .slice (some ⟨w.heap.size, 0, none⟩) 2 2, .slice none 0 0] (w.alloc (.cells #[.int .i64 0, .int .i64 60] 3)) fun e w' => e = .returned (.tuple #[.agg #[.int .i64 0, .int .i64 1], .int .i64 0]) ∧ Below w.heap.size w w' := by
  refine (f23_any _ none 1 2 2 0 0 _ [] _ (lit1 w [0, 60] (by simp)) (Nat.le_refl _) (Ints.nil _ _) (fun _ => ⟨rfl, rfl⟩)).mono ?_
  rintro e w' ⟨rfl, hb⟩
  have e1 : guX 1 [0, 60] [] = 0 := by decide +kernel
  have e2 : guY 1 [0, 60] [] = 1 := by decide +kernel
  have e3 : guE 1 [0, 60] [] = 0 := by decide +kernel
  rw [e1, e2, e3]
  exact ⟨rfl, below_step (below_alloc _ _) hb⟩
def wB (w : World) : World := (w.alloc (.cells #[.int .i64 0, .int .i64 1] 3)).alloc (.cells #[.slice (some ⟨w.heap.size, 0, none⟩) 2 2] 31)
theorem wB_said (w : World) : IntsS (wB w) (some ⟨w.heap.size + 1, 0, none⟩) 1 [[0, 1]] := by
  have o1 : Own (wB w) w.heap.size [0, 1] := (Own.lit w [0, 1]).alloc _
  have hz : (w.alloc (.cells #[.int .i64 0, .int .i64 1] 3)).heap.size = w.heap.size + 1 := by simp
  have h3 : (wB w).heap[w.heap.size + 1]? = some (.cells #[.slice (some ⟨w.heap.size, 0, none⟩) 2 2] 31 (0, 0)) := by
    rw [← hz]; exact heap_alloc_new _ _
  exact lits rfl (by omega) h3 fun j hj => by
    match j, hj with
    | 0, _ => exact ⟨_, 2, rfl, o1, by simp⟩
theorem c17 (w : World) : Calls Try.prog 17 #[.int .i64 1, .int .i64 2, .slice (some ⟨w.heap.size + 1, 0, none⟩) 1 1] (wB w) fun e w' => e = .returned (.tuple #[.agg #[.int .i64 1, .int .i64 2], .int .i64 0]) ∧ Below w.heap.size w w' := by
  refine (f17_any _ 1 2 1 1 _ _ (wB_said w)).mono ?_
  rintro e w' ⟨rfl, hb⟩
  have e1 : regX 1 2 [[0, 1]] = 1 := by decide +kernel
  have e2 : regY 1 2 [[0, 1]] = 2 := by decide +kernel
  have e3 : regErr 1 2 [[0, 1]] = 0 := by decide +kernel
  rw [e1, e2, e3]
  exact ⟨rfl, below_step (below_alloc2 w _ _) hb⟩
theorem c17s (w : World) (z : Nat) (hz : w.heap.size = z) : Calls Try.prog 17 #[.int .i64 1, .int .i64 2, .slice (some ⟨z + 1, 0, none⟩) 1 1] ((w.alloc (.cells #[.int .i64 0, .int .i64 1] 3)).alloc (.cells #[.slice (some ⟨z, 0, none⟩) 2 2] 31)) fun e w' => e = .returned (.tuple #[.agg #[.int .i64 1, .int .i64 2], .int .i64 0]) ∧ Below w.heap.size w w' := by
  subst hz; exact c17 w
theorem below_draw {w w' : World} (h : ∃ k, w' = w.drewN k) : Below w.heap.size w w' := by obtain ⟨k, rfl⟩ := h; exact below_drewN (Below.refl _ _) k

theorem c28s (W : World) (z : Nat) (hz : W.heap.size = z) (A : Option Addr) (c : Nat) (x y : Int) (h : Ints W A 2 [x, y]) :
    Calls Try.prog 28 #[.slice A 2 c, .slice (some ⟨z, 0, none⟩) 2 2] (W.alloc (.cells #[.int .i64 x, .int .i64 y] 3)) fun e w' => e = .returned (.bool true) ∧ Below W.heap.size W w' := by
  subst hz
  refine (f28_any A (some ⟨W.heap.size, 0, none⟩) 2 c 2 2 [x, y] [x, y] _ (h.below (below_alloc _ _)) (lit1 W [x, y] (by simp))).mono ?_
  rintro e w' ⟨rfl, hd⟩
  exact ⟨by simp, below_step (below_alloc _ _) (below_draw hd)⟩
set_option maxRecDepth 100000 in
set_option maxHeartbeats 4000000 in
/-- dibberlaw05.alive -/
theorem f16_any (w : World) : Calls Try.prog 16 #[] w fun e w' => e = .returned (.bool true) ∧ Below w.heap.size w w' := by
  go_enter Try.func16, Try.ntmps16
  go_wp2_with fail
  refine (c31 w).mono ?_
  rintro e w1 ⟨A, c, A', c', rfl, h1, h2, hb⟩
  have H1 := Lib.hid h1
  have H2 := Lib.hid h2
  have B1 := Lib.hid hb
  clear h1 h2 hb
  go_wp2_with fail
  refine (c22 w1).mono ?_
  rintro e w2 ⟨rfl, hb⟩
  have B2 := Lib.hid (below_step B1.out hb)
  have K2 := Lib.hid hb
  clear hb
  go_wp2_with fail
  refine (c23 w2).mono ?_
  rintro e w3 ⟨rfl, hb⟩
  have B3 := Lib.hid (below_step B2.out hb)
  have K3 := Lib.hid (below_step K2.out hb)
  clear hb
  have hz3 : (w3.alloc (.cells #[.int .i64 0, .int .i64 1] 26)).heap.size = w3.heap.size + 1 := size_alloc _ _
  have k17 := Lib.hid (c17s (w3.alloc (.cells #[.int .i64 0, .int .i64 1] 26)) _ hz3)
  clear hz3
  go_wp2_with fail
  refine k17.out.mono ?_
  rintro e w4 ⟨rfl, hb⟩
  have B4 := Lib.hid (below_step (below_step B3.out (below_alloc _ _)) hb)
  have K4 := Lib.hid (below_step (below_step K3.out (below_alloc _ _)) hb)
  have hz4 : w3.heap.size < w4.heap.size := by have := hb.size; simp at this; omega
  have g0 := (hb.cell (p := ⟨w3.heap.size, 0, none⟩) (by simp)).trans (cell_new w3 #[.int .i64 0, .int .i64 1] 26 0)
  have g1 := (hb.cell (p := ⟨w3.heap.size, 1, none⟩) (by simp)).trans (cell_new w3 #[.int .i64 0, .int .i64 1] 26 1)
  have G0 : Hid (w4.cell? ⟨w3.heap.size, 0, none⟩ = some (.int .i64 0)) := g0
  have G1 : Hid (w4.cell? ⟨w3.heap.size, 1, none⟩ = some (.int .i64 1)) := g1
  have J1 := Lib.hid (H1.out.below K4.out)
  have J2 := Lib.hid (H2.out.below K4.out)
  clear hb g0 g1
  have B5 : Hid (Below w4.heap.size w4 (w4.alloc (.cells #[.int .i64 1, .int .i64 2] 26))) := below_alloc _ _
  have k28 := Lib.hid (c28s (w4.alloc (.cells #[.int .i64 1, .int .i64 2] 26)) _ (size_alloc _ _) A c 0 1 (J1.out.below B5.out))
  have F0 : Hid ((w4.alloc (.cells #[.int .i64 1, .int .i64 2] 26)).cell? ⟨w4.heap.size, 0, none⟩ = some (.int .i64 1)) := cell_new _ _ _ _
  have F1 : Hid ((w4.alloc (.cells #[.int .i64 1, .int .i64 2] 26)).cell? ⟨w4.heap.size, 1, none⟩ = some (.int .i64 2)) := cell_new _ _ _ _
  go_wp2_with fail
  refine k28.out.mono ?_
  rintro e w5 ⟨rfl, hb⟩
  have k28b := Lib.hid (c28s w5 _ rfl A' c' 2 0 ((J2.out.below B5.out).below hb))
  have B6 := Lib.hid hb
  clear hb
  go_wp2_with fail
  refine k28b.out.mono ?_
  rintro e w6 ⟨rfl, hb⟩
  have hB6 := below_step B6.out hb
  have q0 := ((below_step B5.out hB6).cell (lt_of_cell G0.out)).trans G0.out
  have q1 := ((below_step B5.out hB6).cell (lt_of_cell G1.out)).trans G1.out
  have q2 := (hB6.cell (lt_of_cell F0.out)).trans F0.out
  have q3 := (hB6.cell (lt_of_cell F1.out)).trans F1.out
  have B7 := Lib.hid (below_step B4.out (below_step B5.out hB6))
  clear hb hB6
  go_wp2
  go_ret
  exact ⟨rfl, B7.out⟩
end Go.Proofs.Ytfaenbaaadjbbaa
