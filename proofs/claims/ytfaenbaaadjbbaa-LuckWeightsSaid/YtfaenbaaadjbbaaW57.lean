/- Walks: whole, Of. -/
import Derived.Test.YtfaenbaaadjbbaaW56
namespace Go.Proofs.Ytfaenbaaadjbbaa
open Go.RowKit

theorem Row.mono {w : World} {base base' : Nat} {v : Value} {xs : List Int} (h : Row w base v xs) (hb : base' ≤ base) : Row w base' v xs := by
  refine ⟨h.1, ?_⟩
  rcases h.2 with hn | ⟨g, cap, cur, e, hg, rest⟩
  · exact .inl hn
  · exact .inr ⟨g, cap, cur, e, Nat.le_trans hb hg, rest⟩
/-- A number of the specification, not below 0; its digits lie from the block `base` on. -/
def BigT (w : World) (base : Nat) (v : Value) (N : Nat) : Prop := ∃ (u : Value) (ds : List Nat), v = .agg #[.bool false, u] ∧ Row w base u (nn ds) ∧ ds.length ≤ 1000 ∧ SmallT ds ∧ NormT ds ∧ valT ds = N
theorem BigT.below {w w' : World} {base : Nat} {v : Value} {N : Nat} (h : BigT w base v N) (hb : Below w.heap.size w w') : BigT w' base v N := by
  obtain ⟨u, ds, h1, h2, h3⟩ := h
  exact ⟨u, ds, h1, h2.below hb, h3⟩
theorem BigT.mono {w : World} {base base' : Nat} {v : Value} {N : Nat} (h : BigT w base v N) (hb : base' ≤ base) : BigT w base' v N := by
  obtain ⟨u, ds, h1, h2, h3⟩ := h
  exact ⟨u, ds, h1, Row.mono h2 hb, h3⟩
theorem BigT.form {w : World} {base : Nat} {v : Value} {N : Nat} (h : BigT w base v N) : ∃ (A : Option Addr) (ds : List Nat) (c : Nat), v = .agg #[.bool false, .slice A ds.length c] ∧ Ints w A ds.length (nn ds) ∧ ds.length ≤ 1000 ∧ SmallT ds ∧ NormT ds ∧ valT ds = N := by
  obtain ⟨u, ds, rfl, h2, h3, h4⟩ := h
  obtain ⟨A, c, rfl, hi⟩ := Row.form h2
  have hi := hi 1000 (by rw [nn_len]; exact h3) (by omega)
  rw [nn_len] at hi
  exact ⟨A, ds, c, by rw [nn_len], hi, h3, h4⟩
theorem grown_setC (w : World) (a : Addr) (u : Value) : w.grownBy (w.setCell a u) (some a.block) :=
  ⟨rfl, rfl, rfl, by simp, fun k _ hk => heap_setCell_other w a k u (fun e => hk (by rw [e]))⟩
theorem BigT.setC {w : World} {base : Nat} {v : Value} {N : Nat} (h : BigT w base v N) (a : Addr) (x : Value) (ha : a.block < base) : BigT (w.setCell a x) base v N := by
  obtain ⟨u, ds, h1, h2, h3⟩ := h
  exact ⟨u, ds, h1, World.ownsRow.kept h2 (grown_setC w a x) (.inr fun e => by have := (World.ownsRow.lt h2 _ e).1; omega), h3⟩
set_option maxRecDepth 100000 in
set_option maxHeartbeats 2000000 in
/-- dibberref01.whole -/
theorem f67_any (A : Option Addr) (ds : List Nat) (c : Nat) (w : World) (hs : Ints w A ds.length (nn ds)) (hsm : SmallT ds) (hl : ds.length ≤ 1000) :
    Calls Try.prog 67 #[.bool false, .slice A ds.length c] w fun e w' => ∃ v, e = .returned v ∧ BigT w' w.heap.size v (valT ds) ∧ Below w.heap.size w w' := by
  have k83 := Lib.hid (f83_any A ds c (w.alloc (.cells #[.bool false, .slice none 0 0] 54)) (hs.below (below_alloc _ _)) hsm hl)
  generalize valT ds = N at *
  generalize ds.length = n at *
  clear hs hsm
  go_enter Try.func67, Try.ntmps67
  go_wp2_with fail
  refine k83.out.mono ?_
  rintro e w2 ⟨v2, es, rfl, hr2, hl2, hs2, hn2, hv2, hb2⟩
  have B2 := Lib.hid (below_step (below_alloc w (.cells #[.bool false, .slice none 0 0] 54)) hb2)
  have hlt : w.heap.size < (w.alloc (.cells #[.bool false, .slice none 0 0] 54)).heap.size := by simp
  have c0 := (hb2.cell (p := ⟨w.heap.size, 0, none⟩) hlt).trans (cell_new w _ 54 0)
  have c1 := (hb2.cell (p := ⟨w.heap.size, 1, none⟩) hlt).trans (cell_new w _ 54 1)
  have f0 := ((bcell hb2).2 w.heap.size 0 hlt).trans (frozen_new w _ 54 0)
  have f1 := ((bcell hb2).2 w.heap.size 1 hlt).trans (frozen_new w _ 54 1)
  have hz : w.heap.size < w2.heap.size := lt_of_cell c0
  have hr2' : Row w2 (w.heap.size + 1) v2 (nn es) := by simpa using hr2
  obtain ⟨A2, c2, rfl, hi2⟩ := Row.form hr2'
  have hi2 := hi2 1000 (by rw [nn_len]; exact hl2) (by omega)
  rw [nn_len] at *
  have HR2 := Lib.hid hr2'
  have H2 := Lib.hid (And.intro hs2 (And.intro hn2 (And.intro hv2 hl2)))
  have hs0 := hi2.small
  obtain ⟨k2, hk2⟩ : ∃ k, k = es.length := ⟨_, rfl⟩
  rw [← hk2] at HR2 hs0 hi2 ⊢
  have HK := Lib.hid hk2
  simp at c0 c1
  clear hi2 hs2 hn2 hv2 hb2 hlt hr2 hr2' hl2 hk2
  go_wp2_with fail
  refine bodyPost_ret (v := .agg #[.bool false, .slice A2 k2 c2]) (by simp [results, Try.results67, go_sem, c0, c1]) rfl ⟨_, rfl, ?_, ?_⟩
  · have hne : (Value.slice A2 k2 c2).ownBlock = none ∨ (Value.slice A2 k2 c2).ownBlock ≠ some w.heap.size := .inr fun e => by
      have := (World.ownsRow.lt HR2.out _ e).1
      omega
    have r3 := World.ownsRow.kept (World.ownsRow.kept HR2.out (grown_setC w2 ⟨w.heap.size, 0, none⟩ (.bool false)) hne) (grown_setC _ ⟨w.heap.size, 1, none⟩ (.slice A2 k2 c2)) hne
    exact ⟨_, es, rfl, Row.mono r3 (Nat.le_succ _), H2.out.2.2.2, H2.out.1, H2.out.2.1, H2.out.2.2.1⟩
  · exact (B2.out.setCell (Nat.le_refl _) _).setCell (Nat.le_refl _) _
end Go.Proofs.Ytfaenbaaadjbbaa
