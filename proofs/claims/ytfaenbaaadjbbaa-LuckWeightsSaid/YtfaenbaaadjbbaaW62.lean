/- Walks: power. -/
import Derived.Test.YtfaenbaaadjbbaaW61
namespace Go.Proofs.Ytfaenbaaadjbbaa
open Go.RowKit

theorem two_set (w : World) (p : Nat) (u0 u1 x0 x1 : Value) (h0 : w.cell? ⟨p, 0, none⟩ = some x0) (h1 : w.cell? ⟨p, 1, none⟩ = some x1) (g0 : w.frozen? ⟨p, 0, none⟩ = false) (g1 : w.frozen? ⟨p, 1, none⟩ = false) :
    let V := (w.setCell ⟨p, 0, none⟩ u0).setCell ⟨p, 1, none⟩ u1
    V.cell? ⟨p, 0, none⟩ = some u0 ∧ V.cell? ⟨p, 1, none⟩ = some u1 ∧ V.frozen? ⟨p, 0, none⟩ = false ∧ V.frozen? ⟨p, 1, none⟩ = false ∧ V.heap.size = w.heap.size := by
  refine ⟨?_, ?_, by simp [g0], by simp [g1], by simp⟩
  · have e : ((w.setCell ⟨p, 0, none⟩ u0).setCell ⟨p, 1, none⟩ u1).cell? ⟨p, 0, none⟩ = (w.setCell ⟨p, 0, none⟩ u0).cell? ⟨p, 0, none⟩ := by
      apply World.cell?_setCell_other
      intro e; injection e with e1 e2; omega
    rw [e]
    first | exact World.cell?_setCell_same h0 | exact World.cell?_setCell_same _ _ _ h0
  · have e : (w.setCell ⟨p, 0, none⟩ u0).cell? ⟨p, 1, none⟩ = some x1 := by
      rw [← h1]
      apply World.cell?_setCell_other
      intro e; injection e with e1 e2; omega
    first | exact World.cell?_setCell_same e | exact World.cell?_setCell_same _ _ _ e
set_option linter.unusedSimpArgs false in
set_option maxRecDepth 100000 in
set_option maxHeartbeats 4000000 in
/-- dibberlaw05.power -/
theorem f37_any (a n : Nat) (w : World) (hn : n ≤ 1000000) (ha : a ≤ 1000000) (hp : ∀ j, j ≤ n → a ^ j < D10 ^ 400) (ha2 : a < D10 ^ 400) :
    Calls Try.prog 37 #[.int .i64 (a : Int), .int .i64 (n : Int)] w fun e w' => ∃ v, e = .returned v ∧ BigT w' w.heap.size v (a ^ n) ∧ Below w.heap.size w w' := by
  have HP := Lib.hid hp
  have HA2 := Lib.hid ha2
  clear hp ha2
  have k1 := Lib.hid (f39_any 1 (w.alloc (.cells #[.bool false, .slice none 0 0] 54)) (by omega))
  have hb1 := below_alloc w (.cells #[.bool false, .slice none 0 0] 54)
  have r0 := cell_new w #[.bool false, .slice none 0 0] 54 0
  have r1 := cell_new w #[.bool false, .slice none 0 0] 54 1
  have s0 := frozen_new w #[.bool false, .slice none 0 0] 54 0
  have s1 := frozen_new w #[.bool false, .slice none 0 0] 54 1
  have hz1 : (w.alloc (.cells #[.bool false, .slice none 0 0] 54)).heap.size = w.heap.size + 1 := by simp
  obtain ⟨w1, hw1⟩ : ∃ w1, w1 = w.alloc (.cells #[.bool false, .slice none 0 0] 54) := ⟨_, rfl⟩
  rw [← hw1] at k1 hb1 r0 r1 s0 s1 hz1
  simp at r0 r1
  have HB1 := Lib.hid hb1
  have HR1 : Hid (∀ W, Below w1.heap.size w1 W → (W.cell? ⟨w.heap.size, 0, none⟩ = some (.bool false) ∧ W.cell? ⟨w.heap.size, 1, none⟩ = some (.slice none 0 0) ∧ W.frozen? ⟨w.heap.size, 0, none⟩ = false ∧ W.frozen? ⟨w.heap.size, 1, none⟩ = false)) := fun W h => ⟨((bcell h).1 _ _ (by omega)).trans r0, ((bcell h).1 _ _ (by omega)).trans r1, ((bcell h).2 _ _ (by omega)).trans s0, ((bcell h).2 _ _ (by omega)).trans s1⟩
  clear hb1 r0 r1 s0 s1
  go_enter Try.func37, Try.ntmps37
  go_wp2_with fail
  rw [← hw1]
  clear hw1
  refine k1.out.mono ?_
  rintro e w2 ⟨v2, rfl, hg2, hb2⟩
  obtain ⟨A2, ds2, c2, rfl, -⟩ := hg2.form
  generalize ds2.length = k2 at *
  have HG2 := Lib.hid hg2
  have HB2 := Lib.hid hb2
  clear hg2 hb2
  have HZ2 : Hid (w.heap.size + 1 ≤ w2.heap.size) := by have := HB2.out.size; unfold Hid; omega
  have HZ1 := Lib.hid hz1
  have HB2 : Hid (Below w1.heap.size w1 (w2.alloc (.cells #[.bool false, .slice A2 k2 c2] 54))) := below_step HB2.out (below_alloc _ _)
  clear hz1
  go_wp2_with fail
  go_loopw [6] (fun i wr => ∃ (j : Nat) (A : Option Addr) (k c : Nat), j ≤ n ∧ i = .int .i64 (j : Int) ∧ wr.cell? ⟨w2.heap.size, 0, none⟩ = some (.bool false) ∧ wr.cell? ⟨w2.heap.size, 1, none⟩ = some (.slice A k c) ∧ wr.frozen? ⟨w2.heap.size, 0, none⟩ = false ∧ wr.frozen? ⟨w2.heap.size, 1, none⟩ = false ∧ w2.heap.size + 1 ≤ wr.heap.size ∧ BigT wr (w.heap.size + 1) (.agg #[.bool false, .slice A k c]) (a ^ j) ∧ Below w1.heap.size w1 wr) (fun i _ => n - (intOf i).toNat)
  case atStart => exact ⟨0, A2, k2, c2, by omega, rfl, cell_new _ _ _ _, cell_new _ _ _ _, frozen_new _ _ _ _, frozen_new _ _ _ _, by simp, (HG2.out.mono (by rw [HZ1.out]; omega)).below (below_alloc _ _), HB2.out⟩
  case round => as_aux_lemma =>
    obtain ⟨j, A, k, c, hj, rfl, c0, c1, f0, f1, hsz, hbig, hbel⟩ := hrel
    have HBG := Lib.hid hbig
    have HBL := Lib.hid hbel
    by_cases hlt : j < n
    · have k39 := Lib.hid (f39_any a wr.drew (by omega))
      have k38 : Hid (∀ w4 v4, Below wr.heap.size wr w4 → BigT w4 wr.heap.size v4 a → Calls Try.prog 38 #[.agg #[.bool false, .slice A k c], v4] w4 fun e w' => ∃ v, e = .returned v ∧ BigT w' w4.heap.size v (a ^ (j + 1)) ∧ Below w4.heap.size w4 w') := fun w4 v4 h4 h5 =>
        f38_any _ _ _ _ (a ^ j) a w4 (HBG.out.below h4) h5 (HP.out j hj) HA2.out
      have R0 : Hid (∀ W, Below wr.heap.size wr W → (W.cell? ⟨w2.heap.size, 0, none⟩ = some (.bool false) ∧ W.cell? ⟨w2.heap.size, 1, none⟩ = some (.slice A k c) ∧ W.frozen? ⟨w2.heap.size, 0, none⟩ = false ∧ W.frozen? ⟨w2.heap.size, 1, none⟩ = false)) := fun W h => ⟨((bcell h).1 _ _ (by omega)).trans c0, ((bcell h).1 _ _ (by omega)).trans c1, ((bcell h).2 _ _ (by omega)).trans f0, ((bcell h).2 _ _ (by omega)).trans f1⟩
      clear hbig hbel
      go_wp2_with fail
      refine wp_region_held_drew (S := fun _ => True) (by kernel_rfl) trivial (fun _ => ?_)
      refine wpAnyH_take (i := 1) (oi := { dst := some 14, op := Op.move (Operand.tmp 0), type := 3, pos := "own.go:41", after := #[], guard := none }) (v := .int .i64 (a : Int)) rfl (by kernel_rfl) (by kernel_rfl) (by kernel_rfl) (fun _ _ _ h => h) (Or.inl ⟨by kernel_rfl, fun W hSW => by go_simp⟩) trivial ?_
      try simp only [Act.put, List.setIfInBounds_toArray, List.set_cons_zero, List.set_cons_succ]
      refine wpAnyH_ready (rs := [0, 2]) (by kernel_rfl) (by simp) ?_
      refine AllReadyH.cons (o := { dst := some 13, op := Op.load 54 (Operand.tmp 5), type := 54, pos := "own.go:41", after := #[], guard := none }) rfl (fun K hK => ?_) (AllReadyH.cons (o := { dst := some 15, op := Op.call { callee := Callee.value (Operand.func 39), args := #[Operand.tmp 14], argTypes := #[3] }, type := 54, pos := "own.go:41", after := #[{ on := 1, ground := Ground.data }], guard := none }) rfl (fun K hK => ?_) AllReadyH.nil)
      · go_simp
        refine hK.out _ _ trivial (fun _ => ?_)
        clear hK K
        try simp only [Act.put, List.setIfInBounds_toArray, List.set_cons_zero, List.set_cons_succ]
        refine wpAnyH_ready (rs := [2]) (by kernel_rfl) (by simp) ?_
        refine AllReadyH.cons (o := { dst := some 15, op := Op.call { callee := Callee.value (Operand.func 39), args := #[Operand.tmp 14], argTypes := #[3] }, type := 54, pos := "own.go:41", after := #[{ on := 1, ground := Ground.data }], guard := none }) rfl (fun K hK => ?_) AllReadyH.nil
        go_simp
        refine k39.out.mono ?_
        rintro e w4 ⟨v4, rfl, hg4, hb4⟩
        have hq4 : Below wr.heap.size wr w4 := below_step (a := wr) (b := wr.drew) (below_drewN (Below.refl _ _) 1) hb4
        obtain ⟨x0, x1, x2, x3⟩ := R0.out _ hq4
        refine hK.out _ _ trivial (fun _ => ?_)
        clear hK K
        try simp only [Act.put, List.setIfInBounds_toArray, List.set_cons_zero, List.set_cons_succ]
        refine wpAnyH_ready (rs := [3]) (by kernel_rfl) (by simp) ?_
        refine AllReadyH.cons (o := { dst := some 16, op := Op.call { callee := Callee.value (Operand.func 38), args := #[Operand.tmp 13, Operand.tmp 15], argTypes := #[54, 54] }, type := 54, pos := "own.go:41", after := #[{ on := 0, ground := Ground.data }, { on := 2, ground := Ground.data }, { on := 2, ground := Ground.chain }], guard := none }) rfl (fun K hK => ?_) AllReadyH.nil
        go_simp
        refine (k38.out w4 v4 hq4 hg4).mono ?_
        rintro e w5 ⟨v5, rfl, hg5, hb5⟩
        have hq5 : Below wr.heap.size wr w5 := below_step hq4 hb5
        obtain ⟨y0, y1, y2, y3⟩ := R0.out _ hq5
        obtain ⟨A5, ds5, c5, rfl, -⟩ := hg5.form
        have HB5 := Lib.hid (below_step HBL.out hq5)
        have HG5 := Lib.hid (hg5.mono (show w2.heap.size + 1 ≤ w4.heap.size by have := hq4.size; omega))
        have hz5 := hq5.size
        generalize ds5.length = k5 at *
        clear hb5 hg5
        refine hK.out _ _ trivial (fun _ => ?_)
        clear hK K
        try simp only [Act.put, List.setIfInBounds_toArray, List.set_cons_zero, List.set_cons_succ]
        refine wpAnyH_ready (rs := [4]) (by kernel_rfl) (by simp) ?_
        refine AllReadyH.cons (o := { dst := none, op := Op.store 54 (Operand.tmp 5) (Operand.tmp 16), type := 0, pos := "own.go:41", after := #[{ on := 3, ground := Ground.data }, { on := 3, ground := Ground.chain }, { on := 0, ground := Ground.phase }, { on := 1, ground := Ground.phase }, { on := 2, ground := Ground.phase }, { on := 3, ground := Ground.phase }], guard := none }) rfl (fun K hK => ?_) AllReadyH.nil
        go_simp
        refine hK.out _ _ trivial (fun _ => ?_)
        clear hK K
        try simp only [Act.put, List.setIfInBounds_toArray, List.set_cons_zero, List.set_cons_succ]
        refine wpAnyH_done (by kernel_rfl) ?_ _
        go_wp2_with fail
        obtain ⟨z0, z1, z2, z3, z4⟩ := two_set w5 w2.heap.size (.bool false) (.slice A5 k5 c5) _ _ y0 y1 y2 y3
        exact ⟨⟨j + 1, A5, k5, c5, by omega, by go_num, z0, z1, z2, z3, by rw [z4]; omega, ((HG5.out.setC ⟨w2.heap.size, 0, none⟩ (.bool false) (Nat.lt_succ_self _)).setC ⟨w2.heap.size, 1, none⟩ (.slice A5 k5 c5) (Nat.lt_succ_self _)).mono (by have := HZ2.out; omega), (HB5.out.setCell (by rw [HZ1.out]; exact HZ2.out) _).setCell (by rw [HZ1.out]; exact HZ2.out) _⟩, by simp [intOf]; omega⟩
      · go_simp
        refine k39.out.mono ?_
        rintro e w4 ⟨v4, rfl, hg4, hb4⟩
        have hq4 : Below wr.heap.size wr w4 := below_step (a := wr) (b := wr.drew) (below_drewN (Below.refl _ _) 1) hb4
        obtain ⟨x0, x1, x2, x3⟩ := R0.out _ hq4
        refine hK.out _ _ trivial (fun _ => ?_)
        clear hK K
        try simp only [Act.put, List.setIfInBounds_toArray, List.set_cons_zero, List.set_cons_succ]
        refine wpAnyH_ready (rs := [0]) (by kernel_rfl) (by simp) ?_
        refine AllReadyH.cons (o := { dst := some 13, op := Op.load 54 (Operand.tmp 5), type := 54, pos := "own.go:41", after := #[], guard := none }) rfl (fun K hK => ?_) AllReadyH.nil
        go_simp
        refine hK.out _ _ trivial (fun _ => ?_)
        clear hK K
        try simp only [Act.put, List.setIfInBounds_toArray, List.set_cons_zero, List.set_cons_succ]
        refine wpAnyH_ready (rs := [3]) (by kernel_rfl) (by simp) ?_
        refine AllReadyH.cons (o := { dst := some 16, op := Op.call { callee := Callee.value (Operand.func 38), args := #[Operand.tmp 13, Operand.tmp 15], argTypes := #[54, 54] }, type := 54, pos := "own.go:41", after := #[{ on := 0, ground := Ground.data }, { on := 2, ground := Ground.data }, { on := 2, ground := Ground.chain }], guard := none }) rfl (fun K hK => ?_) AllReadyH.nil
        go_simp
        refine (k38.out w4 v4 hq4 hg4).mono ?_
        rintro e w5 ⟨v5, rfl, hg5, hb5⟩
        have hq5 : Below wr.heap.size wr w5 := below_step hq4 hb5
        obtain ⟨y0, y1, y2, y3⟩ := R0.out _ hq5
        obtain ⟨A5, ds5, c5, rfl, -⟩ := hg5.form
        have HB5 := Lib.hid (below_step HBL.out hq5)
        have HG5 := Lib.hid (hg5.mono (show w2.heap.size + 1 ≤ w4.heap.size by have := hq4.size; omega))
        have hz5 := hq5.size
        generalize ds5.length = k5 at *
        clear hb5 hg5
        refine hK.out _ _ trivial (fun _ => ?_)
        clear hK K
        try simp only [Act.put, List.setIfInBounds_toArray, List.set_cons_zero, List.set_cons_succ]
        refine wpAnyH_ready (rs := [4]) (by kernel_rfl) (by simp) ?_
        refine AllReadyH.cons (o := { dst := none, op := Op.store 54 (Operand.tmp 5) (Operand.tmp 16), type := 0, pos := "own.go:41", after := #[{ on := 3, ground := Ground.data }, { on := 3, ground := Ground.chain }, { on := 0, ground := Ground.phase }, { on := 1, ground := Ground.phase }, { on := 2, ground := Ground.phase }, { on := 3, ground := Ground.phase }], guard := none }) rfl (fun K hK => ?_) AllReadyH.nil
        go_simp
        refine hK.out _ _ trivial (fun _ => ?_)
        clear hK K
        try simp only [Act.put, List.setIfInBounds_toArray, List.set_cons_zero, List.set_cons_succ]
        refine wpAnyH_done (by kernel_rfl) ?_ _
        go_wp2_with fail
        obtain ⟨z0, z1, z2, z3, z4⟩ := two_set w5 w2.heap.size (.bool false) (.slice A5 k5 c5) _ _ y0 y1 y2 y3
        exact ⟨⟨j + 1, A5, k5, c5, by omega, by go_num, z0, z1, z2, z3, by rw [z4]; omega, ((HG5.out.setC ⟨w2.heap.size, 0, none⟩ (.bool false) (Nat.lt_succ_self _)).setC ⟨w2.heap.size, 1, none⟩ (.slice A5 k5 c5) (Nat.lt_succ_self _)).mono (by have := HZ2.out; omega), (HB5.out.setCell (by rw [HZ1.out]; exact HZ2.out) _).setCell (by rw [HZ1.out]; exact HZ2.out) _⟩, by simp [intOf]; omega⟩
    · obtain rfl : j = n := by omega
      obtain ⟨x0, x1, x2, x3⟩ := HR1.out _ hbel
      have hz := lt_of_cell x0
      have HBL9 := Lib.hid (HB1.out.trans (hbel.mono (by rw [HZ1.out]; omega)))
      clear hbig hbel
      go_wp2_with fail
      refine bodyPost_ret (v := .agg #[.bool false, .slice A k c]) (by simp [results, Try.results37, go_sem, x0, x1]) rfl ⟨_, rfl, ?_, ?_⟩
      · exact ((HBG.out.setC ⟨w.heap.size, 0, none⟩ (.bool false) (Nat.lt_succ_self _)).setC ⟨w.heap.size, 1, none⟩ (.slice A k c) (Nat.lt_succ_self _)).mono (Nat.le_succ _)
      · exact (HBL9.out.setCell (Nat.le_refl _) _).setCell (Nat.le_refl _) _
end Go.Proofs.Ytfaenbaaadjbbaa
