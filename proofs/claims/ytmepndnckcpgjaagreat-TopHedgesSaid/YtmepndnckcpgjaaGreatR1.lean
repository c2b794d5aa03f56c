/- Walks: slices.Repeat of one number. -/
import Derived.Test.YtmepndnckcpgjaaGreatF2
import Derived.Deep.RegionHeld3
import Derived.Laws.CopyOwn
namespace Go.Proofs.YtmepndnckcpgjaaGreat
open Go.RowKit

set_option maxHeartbeats 2000000 in
/-- math/bits.Mul64: 1 times a small number -/
theorem f107_one (n : Nat) (h1 : 1 ≤ n) (hn : n ≤ 7) (w : World) : Calls Tryz.prog 136 #[.int .u64 1, .int .u64 (n : Int)] w fun e w' => e = .returned (.tuple #[.int .u64 0, .int .u64 (n : Int)]) ∧ w = w' := by
  have h : n = 1 ∨ n = 2 ∨ n = 3 ∨ n = 4 ∨ n = 5 ∨ n = 6 ∨ n = 7 := by omega
  rcases h with rfl | rfl | rfl | rfl | rfl | rfl | rfl
  all_goals
    go_enter Tryz.func136, Tryz.ntmps136
    go_wp2
    go_ret2
    exact ⟨by rfl, rfl⟩
/-- math/bits.Mul: 1 times a small number -/
theorem f95_one (n : Nat) (h1 : 1 ≤ n) (hn : n ≤ 7) (w : World) : Calls Tryz.prog 125 #[.int .u64 1, .int .u64 (n : Int)] w fun e w' => e = .returned (.tuple #[.int .u64 0, .int .u64 (n : Int)]) ∧ w = w' := by
  have K := Lib.hid (f107_one n h1 hn w)
  go_enter Tryz.func125, Tryz.ntmps125
  go_wp2_with fail
  refine K.out.mono ?_
  rintro e w1 ⟨rfl, rfl⟩
  go_wp2
  go_ret2
  exact ⟨rfl, rfl⟩
/-- c times a number, and 0 behind. -/
def ones (y : Int) (c n : Nat) : List Value := List.replicate c (.int .i64 y) ++ List.replicate (n - c) (.int .i64 0)
theorem ones_len {y : Int} {c n : Nat} (_h : c ≤ n) : (ones y c n).length = n := by simp [ones]; omega
theorem ones_zero (y : Int) (n : Nat) : ones y 0 n = (List.replicate n (0 : Int)).map (Value.int .i64) := by simp [ones]
theorem ones_all (y : Int) (n : Nat) : ones y n n = (List.replicate n y).map (Value.int .i64) := by simp [ones]
theorem ones_splice {y : Int} {c m n : Nat} (_h : c + m ≤ n) : splice (ones y c n) c (List.replicate m (.int .i64 y)) = ones y (c + m) n := by
  unfold splice ones
  have e1 : (List.replicate c (Value.int .i64 y) ++ List.replicate (n - c) (Value.int .i64 0)).take c = List.replicate c (Value.int .i64 y) := by
    rw [List.take_append_of_le_length (by simp)]; simp
  have e2 : (List.replicate c (Value.int .i64 y) ++ List.replicate (n - c) (Value.int .i64 0)).drop (c + (List.replicate m (Value.int .i64 y)).length) = List.replicate (n - (c + m)) (Value.int .i64 0) := by
    rw [List.drop_append]
    simp
    first | done | omega | (congr 1; omega)
  rw [e1, e2, ← List.append_assoc, List.replicate_append_replicate]
theorem ones_get {y : Int} {c n j : Nat} (h : j < c) : (ones y c n)[j]? = some (.int .i64 y) := by
  unfold ones
  rw [List.getElem?_append_left (by simp; exact h)]
  simp [h]
set_option maxRecDepth 100000 in
set_option maxHeartbeats 4000000 in
/-- slices.Repeat of one number -/
theorem f63_one (h n : Nat) (y : Int) (hn1 : 1 ≤ n) (hn : n ≤ 7) (w : World) (hc : w.cell? ⟨h, 0, none⟩ = some (.int .i64 y)) :
    Calls Tryz.prog 91 #[.slice (some ⟨h, 0, none⟩) 1 1, .int .i64 (n : Int)] w fun e w' => ∃ g, e = .returned (.slice (some ⟨g, 0, none⟩) n n) ∧ Own w' g (List.replicate n y) ∧ w.heap.size ≤ g ∧ Below w.heap.size w w' := by
  have k84 := Lib.hid (f95_one n hn1 (by omega) w)
  have hmk := make_ints n (by omega) w
  obtain ⟨w2, hw2⟩ : ∃ w2, w2 = w.alloc (.cells ((List.replicate n (0 : Int)).map (Value.int .i64)).toArray 3) := ⟨_, rfl⟩
  rw [← hw2] at hmk
  have B2 : Hid (Below w.heap.size w w2) := by rw [hw2]; exact below_alloc _ _
  have R2 : Hid (w2.heap[w.heap.size]? = some (.cells (ones y 0 n).toArray 3 (0, 0))) := by rw [hw2, ones_zero]; exact heap_alloc_new w _
  have hc2 := (B2.out.cell (lt_of_cell hc)).trans hc
  have HC2 := Lib.hid hc2
  have hu1 : IntKind.u64.wrap (n : Int) = (n : Int) := by rw [IntKind.wrap_u64]; omega
  have hu2 : IntKind.i64.wrap (n : Int) = (n : Int) := IntWalk.i64_in _ (by omega)
  clear hw2 hc hc2
  go_enter Tryz.func91, Tryz.ntmps91
  go_wp2_with fail
  refine k84.out.mono ?_
  rintro e w1 ⟨rfl, rfl⟩
  go_wp2_with (refine wpList_copy_splice rfl (.tmp 31) (.tmp 32) 23 23 rfl 3 Tryz.underlying23 (by kernel_rfl) _ _ _ _ _ _ rfl rfl w.heap.size 0 (ones y 0 n) 3 R2.out (List.replicate 1 (.int .i64 y)) (by simp [Nat.min_def]; omega) (fun _ => ⟨rfl, _, rfl, fun j v hj => by
    have hj0 : j = 0 := by
      rcases Nat.eq_zero_or_pos j with h | h
      · exact h
      · rw [List.getElem?_eq_none (by simp; omega)] at hj; cases hj
    subst hj0
    simp at hj
    rw [← hj]
    exact HC2.out⟩) (by rw [ones_len (by omega)]; simp; omega) (fun v hv => by rw [List.mem_replicate] at hv; rw [hv.2]; rfl) w.heap.size w B2.out (Nat.le_refl _) ?_; intro w3 hr3 hb3)
  have R3 : Hid (w3.heap[w.heap.size]? = some (.cells (ones y 1 n).toArray 3 (0, 0))) := by
    have h2 := hr3.out
    rw [ones_splice (y := y) (c := 0) (m := 1) (by omega)] at h2
    exact h2
  have B3 := Lib.hid hb3
  clear hr3 hb3 R2 B2 HC2
  go_loopw [8] (fun c wr => ∃ q : Nat, 1 ≤ q ∧ q ≤ n ∧ c = .int .i64 (q : Int) ∧ Hid (wr.heap[w.heap.size]? = some (.cells (ones y q n).toArray 3 (0, 0))) ∧ Below w.heap.size w wr) (fun c _ => n - (intOf c).toNat)
  case atStart => exact ⟨1, by omega, by omega, rfl, R3, B3.out⟩
  case round => as_aux_lemma =>
    obtain ⟨q, hq1, hq, rfl, hR, hbel⟩ := hrel
    have HB := Lib.hid hbel
    by_cases hlt : q < n
    · obtain ⟨m, hm⟩ : ∃ m, m = Nat.min q (n - q) := ⟨_, rfl⟩
      have hm2 : m ≤ q ∧ m ≤ n - q ∧ 1 ≤ m := by
        have e : Nat.min q (n - q) = min q (n - q) := rfl
        rw [hm, e]; omega
      have HM := Lib.hid hm
      obtain ⟨m3, m4, m5⟩ := hm2
      have hsrc : Hid (∀ (W : World), W.heap = wr.heap → ∀ j v, (List.replicate m (Value.int .i64 y))[j]? = some v → W.cell? ((⟨w.heap.size, 0, none⟩ : Addr).add j) = some v) := fun W hW j v hj => by
        have hjm : j < m := by
          rcases Nat.lt_or_ge j m with h | h
          · exact h
          · rw [List.getElem?_eq_none (by simp; omega)] at hj; cases hj
        have hv : v = .int .i64 y := by simp [hjm] at hj; exact hj.symm
        rw [Go.WideShapes.add_plain, Nat.zero_add, cell_of_row W w.heap.size j _ 3 (0, 0) (by rw [hW]; exact hR.out), hv]
        simp [ones_get (show j < q by omega)]
      have hfit : Hid (q + (List.replicate m (Value.int .i64 y)).length ≤ (ones y q n).length) := by rw [ones_len hq, List.length_replicate]; unfold Hid; omega
      have h1c : Hid (∀ v ∈ List.replicate m (Value.int .i64 y), v.oneCell' = true) := fun v hv => by rw [List.mem_replicate] at hv; rw [hv.2]; rfl
      have hspl := Lib.hid (ones_splice (y := y) (c := q) (m := m) (n := n) (by omega))
      have hlenm : Hid ((List.replicate m (Value.int .i64 y)).length = m) := List.length_replicate
      have hgi : goInt (List.replicate m (Value.int .i64 y)).length = .int .i64 (m : Int) := by rw [List.length_replicate]; rfl
      have hwq : IntKind.i64.wrap ((q : Int) + (m : Int)) = ((q + m : Nat) : Int) := by rw [IntWalk.i64_in _ (by omega)]; simp
      have q0 : (0 : Int) ≤ (q : Int) := by omega
      have qn : (q : Int) ≤ (n : Int) := by omega
      have hne : ¬ (n = q) := by omega
      have hne2 : ¬ (q = n) := by omega
      clear hm hbel
      go_wp2_with fail
      go_region_held3 (fun _ => True) (trivial)
        ((refine step_copy_splice (by rfl) _ _ _ _ (by rfl) 3 Tryz.underlying23 (by kernel_rfl) _ _ _ _ _ _ (by rfl) (by rfl) w.heap.size q (ones y q n) 3 (by exact hR.out) (List.replicate m (.int .i64 y)) (by rw [hlenm.out]; exact HM.out) (fun _ => ⟨by rfl, _, by rfl, hsrc.out _ (by rfl)⟩) hfit.out h1c.out w.heap.size w (by first | exact HB.out | exact HB.out.drew) (Nat.le_refl _) ?_; intro w4 hr4 hb4))
      have HR4 : Hid (w4.heap[w.heap.size]? = some (.cells (ones y (q + m) n).toArray 3 (0, 0))) := by
        have h2 := hr4.out
        rw [hspl.out] at h2
        exact h2
      have HB4 := Lib.hid hb4
      clear hr4 hb4
      go_wp2
      go_roundw
      case rel => exact ⟨q + m, by omega, by omega, by go_num, HR4, HB4.out⟩
      case measure => simp [intOf]; omega
    · obtain rfl : q = n := by omega
      have hO : Hid (Own wr w.heap.size (List.replicate q y)) := by
        unfold Own
        rw [hR.out, ones_all]
        exact rfl
      clear hbel
      go_wp2
      go_ret
      exact ⟨w.heap.size, rfl, hO.out, Nat.le_refl _, HB.out⟩
end Go.Proofs.YtmepndnckcpgjaaGreat
