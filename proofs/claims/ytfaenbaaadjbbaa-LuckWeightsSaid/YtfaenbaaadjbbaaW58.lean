/- Walks: Of, cmpD, Compare. -/
import Derived.Test.YtfaenbaaadjbbaaW57
namespace Go.Proofs.Ytfaenbaaadjbbaa
open Go.RowKit

theorem grown_frozen {w w' : World} {row : Option Nat} (hg : w.grownBy w' row) {b i : Nat} (hlt : b < w.heap.size) (hne : some b ≠ row) : w'.frozen? ⟨b, i, none⟩ = w.frozen? ⟨b, i, none⟩ := by
  unfold World.frozen?; rw [hg.block b hlt hne]
theorem of_step {ds : List Nat} {m n : Nat} (h : valT ds + m * D10 ^ ds.length = n) : valT (ds ++ [m % D10]) + m / D10 * D10 ^ (ds ++ [m % D10]).length = n := by
  rw [val_snoc, List.length_append, List.length_singleton, Nat.pow_succ, ← h]
  have e := Nat.div_add_mod m D10
  have h2 : (D10 * (m / D10) + m % D10) * D10 ^ ds.length = m * D10 ^ ds.length := by rw [e]
  rw [Nat.add_mul] at h2
  have h3 : m / D10 * (D10 ^ ds.length * D10) = D10 * (m / D10) * D10 ^ ds.length := by ac_rfl
  rw [h3]; omega
theorem of_short {ds : List Nat} {m n : Nat} (h : valT ds + m * D10 ^ ds.length = n) (hm : 0 < m) (hn : n ≤ 9223372036854775807) : ds.length < 5 := by
  rcases Nat.lt_or_ge ds.length 5 with h1 | h1
  · exact h1
  · exfalso
    have h2 : D10 ^ 5 ≤ D10 ^ ds.length := Nat.pow_le_pow_right D10_pos h1
    have h3 : 1 * D10 ^ ds.length ≤ m * D10 ^ ds.length := Nat.mul_le_mul_right _ hm
    have e : D10 ^ 5 = 100000000000000000000 := by decide
    omega
set_option maxRecDepth 100000 in
set_option maxHeartbeats 2000000 in
/-- dibberref01.Of -/
theorem f39_any (n : Nat) (w : World) (hn : n ≤ 9223372036854775807) :
    Calls Try.prog 39 #[.int .i64 (n : Int)] w fun e w' => ∃ v, e = .returned v ∧ BigT w' w.heap.size v n ∧ Below w.heap.size w w' := by
  have h0 : ¬ ((n : Int) < 0) := by omega
  have HN := Lib.hid hn
  clear hn
  go_enter Try.func39, Try.ntmps39
  go_wp2_with fail
  go_loopw [0, 3] (fun x v wr => ∃ (m : Nat) (ds : List Nat), x = .int .i64 (m : Int) ∧ Row wr (w.heap.size + 1) v (nn ds) ∧ Below w.heap.size w wr ∧ w.heap.size + 1 ≤ wr.heap.size ∧ wr.cell? ⟨w.heap.size, 0, none⟩ = some (.bool false) ∧ wr.cell? ⟨w.heap.size, 1, none⟩ = some (.slice none 0 0) ∧ wr.frozen? ⟨w.heap.size, 0, none⟩ = false ∧ wr.frozen? ⟨w.heap.size, 1, none⟩ = false ∧ Hid (SmallT ds ∧ valT ds + m * D10 ^ ds.length = n ∧ ds.length ≤ 5 ∧ m ≤ n)) (fun x _ _ => (intOf x).toNat)
  case atStart => exact ⟨n, [], rfl, Row.nil _ _, below_alloc _ _, by simp, cell_new w _ 54 0, cell_new w _ 54 1, frozen_new w _ 54 0, frozen_new w _ 54 1, fun j => by rw [List.getD_eq_getElem?_getD]; exact D10_pos, by simp [valT, valTd], by simp, Nat.le_refl _⟩
  case round => as_aux_lemma =>
    obtain ⟨m, ds, rfl, hrow, hbel, hsz, hc0, hc1, hf0, hf1, hd⟩ := hrel
    have HRW := Lib.hid hrow
    have HB := Lib.hid hbel
    clear hrow hbel
    have hm6 : m ≤ 9223372036854775807 := Nat.le_trans hd.out.2.2.2 HN.out
    rcases Nat.eq_zero_or_pos m with hm | hm
    · subst hm
      obtain ⟨A, c, rfl, hi⟩ := Row.form HRW.out
      have hi := hi 1000 (by rw [nn_len]; have := hd.out.2.2.1; omega) (by omega)
      rw [nn_len] at *
      have k67 := Lib.hid (f67_any A ds c wr hi hd.out.1 (by have := hd.out.2.2.1; omega))
      have hv : valT ds = n := by have := hd.out.2.1; omega
      rw [hv] at k67
      generalize ds.length = k at *
      clear hi hd
      go_wp2_with fail
      refine k67.out.mono ?_
      rintro e w2 ⟨v2, rfl, hg2, hb2⟩
      obtain ⟨A2, es, c2, rfl, -⟩ := hg2.form
      generalize es.length = k2 at *
      have hlt : w.heap.size < wr.heap.size := by omega
      have c0 := (hb2.cell (p := ⟨w.heap.size, 0, none⟩) hlt).trans hc0
      have c1 := (hb2.cell (p := ⟨w.heap.size, 1, none⟩) hlt).trans hc1
      have f0 := ((bcell hb2).2 w.heap.size 0 hlt).trans hf0
      have f1 := ((bcell hb2).2 w.heap.size 1 hlt).trans hf1
      have hz2 : w.heap.size < w2.heap.size := lt_of_cell c0
      have B2 := Lib.hid (below_step HB.out hb2)
      have HG2 : Hid (BigT w2 (w.heap.size + 1) (.agg #[.bool false, .slice A2 k2 c2]) n) := BigT.mono hg2 hsz
      clear hg2 hb2 hlt hc0 hc1 hf0 hf1
      go_wp2_with fail
      refine bodyPost_ret (v := .agg #[.bool false, .slice A2 k2 c2]) (by simp [results, Try.results39, go_sem, c0, c1]) rfl ⟨_, rfl, ?_, ?_⟩
      · exact ((HG2.out.setC ⟨w.heap.size, 0, none⟩ (.bool false) (Nat.lt_succ_self _)).setC ⟨w.heap.size, 1, none⟩ (.slice A2 k2 c2) (Nat.lt_succ_self _)).mono (Nat.le_succ _)
      · exact (B2.out.setCell (Nat.le_refl _) _).setCell (Nat.le_refl _) _
    · have hq : ((m : Int) != 0) = true := by simp; omega
      have hr : Int.tmod (m : Int) 10000 = ((m % D10 : Nat) : Int) := by rw [Int.tmod_eq_emod_of_nonneg (by omega)]; simp [D10]
      have hdq : Int.tdiv (m : Int) 10000 = ((m / D10 : Nat) : Int) := by rw [Int.tdiv_eq_ediv_of_nonneg (by omega)]; simp [D10]
      have hlt : ¬ ((m % D10 : Nat) : Int) < 0 := by omega
      have hstep := Lib.hid (of_step hd.out.2.1)
      have hshort := Lib.hid (of_short hd.out.2.1 hm HN.out)
      have HY := Lib.hid (Nat.mod_lt m D10_pos)
      have HZ := Lib.hid (Nat.div_lt_self hm (show 1 < D10 by decide))
      generalize m % D10 = y at *
      generalize m / D10 = z at *
      go_wp2_with (at_builtin; refine wpList_push rfl (.tmp 16) (.tmp 18) rfl (w.heap.size + 1) _ (nn ds) rfl (HRW.out.alloc _) wr.heap.size 1 (y : Int) rfl (cell_new wr _ 3 0) (by rw [nn_len]; have := hshort.out; omega) (by simp; omega) ?_; intro v2 w4 hr4 hg4)
      have hlt : w.heap.size < (wr.alloc (.cells #[.int .i64 (y : Int)] 3)).heap.size := by simp; omega
      have hrz : Row (wr.alloc (.cells #[.int .i64 (y : Int)] 3)) (w.heap.size + 1) _ (nn ds) := HRW.out.alloc _
      have hne : ∀ u : Value, Row (wr.alloc (.cells #[.int .i64 (y : Int)] 3)) (w.heap.size + 1) u (nn ds) → some w.heap.size ≠ u.ownBlock := fun u hu e => by
        have := (World.ownsRow.lt hu _ e.symm).1
        omega
      have hne := hne _ hrz
      have ho : ∀ i, (wr.alloc (.cells #[.int .i64 (y : Int)] 3)).cell? ⟨w.heap.size, i, none⟩ = wr.cell? ⟨w.heap.size, i, none⟩ ∧ (wr.alloc (.cells #[.int .i64 (y : Int)] 3)).frozen? ⟨w.heap.size, i, none⟩ = wr.frozen? ⟨w.heap.size, i, none⟩ := fun i => ⟨(bcell (below_alloc wr _)).1 w.heap.size i (by omega), (bcell (below_alloc wr _)).2 w.heap.size i (by omega)⟩
      have e : nn ds ++ [(y : Int)] = nn (ds ++ [y]) := nn_snoc ds y
      rw [e] at hr4
      have hz9 : wrap64 (z : Int) = (z : Int) := by have := HZ.out; have hd6 := hd.out.2.2.2; unfold wrap64; omega
      rw [hz9]
      refine ⟨⟨z, ds ++ [y], rfl, hr4, below_grown (HB.out.alloc (by omega) _) hg4 (by simp; omega) (hrz.mono (Nat.le_succ _)) (Nat.le_refl _), ?_, ?_, ?_, ?_, ?_, ?_⟩, ?_⟩
      · have := hg4.size; simp at this; omega
      · exact (hg4.cell ((ho 0).1.trans hc0) hne)
      · exact (hg4.cell ((ho 1).1.trans hc1) hne)
      · exact (grown_frozen hg4 hlt hne).trans ((ho 0).2.trans hf0)
      · exact (grown_frozen hg4 hlt hne).trans ((ho 1).2.trans hf1)
      · refine ⟨smallT_snoc hd.out.1 HY.out, hstep.out, ?_, ?_⟩
        · have := hshort.out; rw [List.length_append, List.length_singleton]; omega
        · have := HZ.out; have := hd.out.2.2.2; omega
      · simp [intOf]; exact HZ.out
end Go.Proofs.Ytfaenbaaadjbbaa
