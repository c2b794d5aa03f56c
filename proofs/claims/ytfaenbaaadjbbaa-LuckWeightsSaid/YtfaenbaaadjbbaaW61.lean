/- Walks: Times. -/
import Derived.Test.YtfaenbaaadjbbaaW60
namespace Go.Proofs.Ytfaenbaaadjbbaa
open Go.RowKit

theorem SlD.form {w w' : World} {N : Nat} {e : Ending} (h : SlD w N e w') : ∃ (A : Option Addr) (ds : List Nat) (c : Nat), e = .returned (.slice A ds.length c) ∧ Ints w' A ds.length (nn ds) ∧ ds.length ≤ 1000 ∧ SmallT ds ∧ valT ds = N ∧ Below w.heap.size w w' := by
  obtain ⟨v, ds, rfl, hr, hl, hs, hn, hv, hb⟩ := h
  obtain ⟨A, c, rfl, hi⟩ := Row.form hr
  have hi := hi 1000 (by rw [nn_len]; exact hl) (by omega)
  rw [nn_len] at hi
  exact ⟨A, ds, c, by rw [nn_len], hi, hl, hs, hv, hb⟩
/-- Three numbers laid down one after the other. -/
theorem three_new (w : World) (x y z : Array Value) : ∃ w3, w3 = ((w.alloc (.cells x 54)).alloc (.cells y 54)).alloc (.cells z 54) ∧ Below w.heap.size w w3 ∧ w3.heap.size = w.heap.size + 3
    ∧ (∀ i, w3.cell? ⟨w.heap.size, i, none⟩ = x[i]?) ∧ (∀ i, w3.cell? ⟨w.heap.size + 1, i, none⟩ = y[i]?) ∧ (∀ i, w3.cell? ⟨w.heap.size + 1 + 1, i, none⟩ = z[i]?) ∧ (∀ i, w3.frozen? ⟨w.heap.size + 1 + 1, i, none⟩ = false) := by
  refine ⟨_, rfl, below_step (below_step (below_alloc w _) (below_alloc _ _)) (below_alloc _ _), by simp, fun i => ?_, fun i => ?_, fun i => ?_, fun i => ?_⟩
  · exact ((bcell (below_alloc _ _)).1 _ _ (by simp; omega)).trans (((bcell (below_alloc _ _)).1 _ _ (by simp)).trans (cell_new w _ 54 i))
  · have h := cell_new (w.alloc (.cells x 54)) y 54 i
    have e : (w.alloc (.cells x 54)).heap.size = w.heap.size + 1 := by simp
    rw [e] at h
    exact ((bcell (below_alloc _ _)).1 _ _ (by simp)).trans h
  · have h := cell_new ((w.alloc (.cells x 54)).alloc (.cells y 54)) z 54 i
    have e : ((w.alloc (.cells x 54)).alloc (.cells y 54)).heap.size = w.heap.size + 1 + 1 := by simp
    rw [e] at h; exact h
  · have h := frozen_new ((w.alloc (.cells x 54)).alloc (.cells y 54)) z 54 i
    have e : ((w.alloc (.cells x 54)).alloc (.cells y 54)).heap.size = w.heap.size + 1 + 1 := by simp
    rw [e] at h; exact h
set_option maxRecDepth 100000 in
set_option maxHeartbeats 4000000 in
/-- dibberref01.Times -/
theorem f38_any (v1 v2 : Value) (b1 b2 x y : Nat) (w : World) (h1 : BigT w b1 v1 x) (h2 : BigT w b2 v2 y) (hx : x < D10 ^ 400) (hy : y < D10 ^ 400) :
    Calls Try.prog 38 #[v1, v2] w fun e w' => ∃ v, e = .returned v ∧ BigT w' w.heap.size v (x * y) ∧ Below w.heap.size w w' := by
  obtain ⟨A, ds, c, rfl, hi1, hl1, hs1, hn1, rfl⟩ := h1.form
  obtain ⟨B, es, d, rfl, hi2, hl2, hs2, hn2, rfl⟩ := h2.form
  have k68 : Hid (∀ w1, Below w.heap.size w w1 → Calls Try.prog 68 #[.slice A ds.length c, .slice B es.length d] w1 (SlD w1 (valT ds * valT es))) := fun w1 hb => f68_any A B ds es c d w1 (hi1.below hb) (hi2.below hb) (normT_len hn1 400 hx) (normT_len hn2 400 hy) hs1 hs2
  generalize valT ds * valT es = r at *
  have hk1 := hi1.small
  have hk2 := hi2.small
  generalize ds.length = n at *
  generalize es.length = m at *
  clear h1 h2 hi1 hi2 hl1 hl2 hs1 hs2 hn1 hn2 hx hy
  obtain ⟨w3, hw3, hb3, hz3, ha, hb, hc, hf⟩ := three_new w #[.bool false, .slice A n c] #[.bool false, .slice B m d] #[.bool false, .slice none 0 0]
  have a0 := ha 0
  have a1 := ha 1
  have e0 := hb 0
  have e1 := hb 1
  simp at a0 a1 e0 e1
  have R0 : Hid (∀ W, Below w3.heap.size w3 W → (W.cell? ⟨w.heap.size, 0, none⟩ = some (.bool false) ∧ W.cell? ⟨w.heap.size, 1, none⟩ = some (.slice A n c) ∧ W.cell? ⟨w.heap.size + 1, 0, none⟩ = some (.bool false) ∧ W.cell? ⟨w.heap.size + 1, 1, none⟩ = some (.slice B m d))) := fun W h => ⟨((bcell h).1 _ _ (by omega)).trans a0, ((bcell h).1 _ _ (by omega)).trans a1, ((bcell h).1 _ _ (by omega)).trans e0, ((bcell h).1 _ _ (by omega)).trans e1⟩
  have RC : Hid (∀ W, Below w3.heap.size w3 W → (W.cell? ⟨w.heap.size + 1 + 1, 0, none⟩ = some (.bool false) ∧ W.cell? ⟨w.heap.size + 1 + 1, 1, none⟩ = some (.slice none 0 0) ∧ W.frozen? ⟨w.heap.size + 1 + 1, 0, none⟩ = false ∧ W.frozen? ⟨w.heap.size + 1 + 1, 1, none⟩ = false)) := fun W h => ⟨((bcell h).1 _ _ (by omega)).trans (hc 0), ((bcell h).1 _ _ (by omega)).trans (hc 1), ((bcell h).2 _ _ (by omega)).trans (hf 0), ((bcell h).2 _ _ (by omega)).trans (hf 1)⟩
  have RK : Hid (∀ (W : World) (u0 u1 : Value), (W.cell? ⟨w.heap.size, 0, none⟩ = some (.bool false) ∧ W.cell? ⟨w.heap.size, 1, none⟩ = some (.slice A n c) ∧ W.cell? ⟨w.heap.size + 1, 0, none⟩ = some (.bool false) ∧ W.cell? ⟨w.heap.size + 1, 1, none⟩ = some (.slice B m d)) →
      (((W.setCell ⟨w.heap.size + 1 + 1, 0, none⟩ u0).setCell ⟨w.heap.size + 1 + 1, 1, none⟩ u1).cell? ⟨w.heap.size, 0, none⟩ = some (.bool false) ∧ ((W.setCell ⟨w.heap.size + 1 + 1, 0, none⟩ u0).setCell ⟨w.heap.size + 1 + 1, 1, none⟩ u1).cell? ⟨w.heap.size, 1, none⟩ = some (.slice A n c) ∧ ((W.setCell ⟨w.heap.size + 1 + 1, 0, none⟩ u0).setCell ⟨w.heap.size + 1 + 1, 1, none⟩ u1).cell? ⟨w.heap.size + 1, 0, none⟩ = some (.bool false) ∧ ((W.setCell ⟨w.heap.size + 1 + 1, 0, none⟩ u0).setCell ⟨w.heap.size + 1 + 1, 1, none⟩ u1).cell? ⟨w.heap.size + 1, 1, none⟩ = some (.slice B m d))) := fun W u0 u1 ⟨h1, h2, h3, h4⟩ => by
    have g : ∀ (b i : Nat) (v : Value), b < w.heap.size + 1 + 1 → W.cell? ⟨b, i, none⟩ = some v → ((W.setCell ⟨w.heap.size + 1 + 1, 0, none⟩ u0).setCell ⟨w.heap.size + 1 + 1, 1, none⟩ u1).cell? ⟨b, i, none⟩ = some v := fun b i v hb h =>
      (grown_setC _ _ _).cell ((grown_setC _ _ _).cell h (fun e => by injection e with e; simp at e; omega)) (fun e => by injection e with e; simp at e; omega)
    exact ⟨g _ _ _ (by omega) h1, g _ _ _ (by omega) h2, g _ _ _ (by omega) h3, g _ _ _ (by omega) h4⟩
  have HB3 := Lib.hid hb3
  have HZ3 := Lib.hid hz3
  clear hb3 ha hb hc hf hz3
  go_enter Try.func38, Try.ntmps38
  go_wp2_with fail
  rw [← hw3]
  clear hw3
  go_region_held3 (fun w' => w'.cell? ⟨w.heap.size, 0, none⟩ = some (.bool false) ∧ w'.cell? ⟨w.heap.size, 1, none⟩ = some (.slice A n c) ∧ w'.cell? ⟨w.heap.size + 1, 0, none⟩ = some (.bool false) ∧ w'.cell? ⟨w.heap.size + 1, 1, none⟩ = some (.slice B m d))
    (first | exact RK.out _ _ _ (R0.out _ hq2) | exact R0.out _ hq2 | exact R0.out _ hq1 | go_keep)
    (first | (go_at_call 68; refine (k68.out w3.drew (below_drewN HB3.out 1)).mono ?_; intro e w4 h4; obtain ⟨A4, ds4, c4, rfl, hi4, hl4, hs4, hv4, hb4⟩ := h4.form; have hq1 : Below w3.heap.size w3 w4 := below_step (a := w3) (b := w3.drew) (below_drewN (Below.refl _ _) 1) hb4) | (go_at_call 67; refine (f67_any A4 ds4 c4 w4 hi4 hs4 hl4).mono ?_; rintro e w5 ⟨v5, rfl, hg5, hb5⟩; rw [hv4] at hg5; obtain ⟨A5, ds5, c5, rfl, -⟩ := hg5.form; have hq2 : Below w3.heap.size w3 w5 := below_step hq1 hb5; obtain ⟨r0, r1, s0, s1⟩ := RC.out _ hq2; have HB5 := Lib.hid (below_step HB3.out hq2); have HG5 := Lib.hid (hg5.mono (show w.heap.size + 1 + 1 + 1 ≤ w4.heap.size by have := hq1.size; have := HZ3.out; omega)); generalize ds5.length = k5 at *; clear hb5 hg5))
  all_goals
    have hz : w.heap.size + 1 + 1 < w5.heap.size := lt_of_cell r0
    go_wp2_with fail
    refine bodyPost_ret (v := .agg #[.bool false, .slice A5 k5 c5]) (by simp [results, Try.results38, go_sem, r0, r1]) rfl ⟨_, rfl, ?_, ?_⟩
    · exact ((HG5.out.setC ⟨w.heap.size + 1 + 1, 0, none⟩ (.bool false) (Nat.lt_succ_self _)).setC ⟨w.heap.size + 1 + 1, 1, none⟩ (.slice A5 k5 c5) (Nat.lt_succ_self _)).mono (by omega)
    · exact (HB5.out.setCell (by show w.heap.size ≤ w.heap.size + 1 + 1; omega) _).setCell (by show w.heap.size ≤ w.heap.size + 1 + 1; omega) _
end Go.Proofs.Ytfaenbaaadjbbaa
