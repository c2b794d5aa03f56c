/- Walks: Mate$2, at its end. -/
import Derived.Test.YtiodednhadnekaaDoorW24
import Derived.Lib.SliceRun
namespace Go.Proofs.YtiodednhadnekaaDoor
open Go.RowKit Go.Deep
attribute [local go_sem ↓] Go.wp_at_zero Go.wp_at_succ

theorem MG.len {n : Nat} {best : List (List Int)} (h : MG n best) : best.length ≤ n := by
  rcases h with e | e
  · rw [e]; simp
  · exact Nat.le_of_eq e.1
theorem MG.rows {n : Nat} {best : List (List Int)} (h : MG n best) (j : Nat) : (best.getD j []).length ≤ n := by
  rcases h with e | e
  · rw [e]; simp
  · rcases Nat.lt_or_ge j n with h | h
    · exact Nat.le_of_eq (e.2 j h)
    · rw [List.getD_eq_getElem?_getD, List.getElem?_eq_none (by rw [e.1]; exact h)]; simp
theorem enter64 (args : Array Value) (w : World) : (callFunc 64 args).run Tryd.prog w = .ok (.enter 64 args) w := by simp [go_sem]
theorem eql_nil (w : World) (A : Option Addr) (n c : Nat) : (binOp .eql 22 (.slice A n c) (.slice none 0 0)).run Tryd.prog w = .ok (.bool A.isNone) w := Go.Lib.run_eql_slice_nil w 22 29 A n c 0 0 Tryd.underlying22
attribute [local go_sem] eql_nil
section
variable (w0 : World) (n pN pB pO pS pOn gO gS : Nat) (gr : Nat → Nat) (T : List (List Nat))
/-- What Mate$2 is shown to do. -/
def OnM (f k : Nat) : Prop := ∀ (o : Nat → Nat → Int) (v : Value) (best : List (List Int)) (w : World), MI w0 n pB gr o v best w → MG n best → (best = [] → v = .slice none 0 0) → (∀ r c, o r c = -1 ∨ 0 ≤ o r c) →
  Calls Tryd.prog 64 #[.int .i64 (k : Int), .pointer (some ⟨pN, 0, none⟩), .pointer (some ⟨pB, 0, none⟩), .pointer (some ⟨pO, 0, none⟩), .pointer (some ⟨pS, 0, none⟩), .pointer (some ⟨pOn, 0, none⟩)] w
    fun e w' => e = .returned (.tuple #[]) ∧ ∃ v', MI w0 n pB gr o v' (mtF n T f k o best) w' ∧ (mtF n T f k o best = [] → v' = .slice none 0 0)
set_option maxRecDepth 100000 in
set_option maxHeartbeats 4000000 in
theorem f64_end (hC : MCtx w0 n pN pB pO pS pOn gO gS gr T) (hn : 0 < n) (hn5 : n ≤ 5) : OnM w0 n pN pB pO pS pOn gr T 0 n := by
  intro o v best w hM hG hnil ho
  have HM := Lib.hid hM
  have HC := Lib.hid hC
  have hne : gridL n o ≠ [] := fun e => by have := gridL_len n o; rw [e] at this; simp at this; omega
  have cN := hM.read hC.cN
  have cO := hM.read hC.cO
  have cB := hM.var
  have fB := hM.varF
  have hq : ((n : Int) == (n : Int)) = true := by simp
  obtain ⟨A, c, hv, hbn⟩ := hM.2.2.2.bedsN (by have := hG.len; omega) (fun j => by have := hG.rows j; omega)
  by_cases hb0 : best = []
  · have HU : Hid (mtF n T 0 n o best = gridL n o) := by show updM n o best = gridL n o; unfold updM; rw [if_pos hb0]
    have hv2 := hnil hb0
    subst hv2
    clear hM hC hG hnil ho hbn hv
    have cO2 := (HM.out.setB HC.out (BRow.nil w w0.heap.size)).read HC.out.cO
    have M2 := Lib.hid (HM.out.setB HC.out (BRow.nil w w0.heap.size))
    go_enter Tryd.func64, Tryd.ntmps64
    go_wp2
    obtain ⟨wa, hwa⟩ : ∃ z, z = w.setCell ⟨pB, 0, none⟩ (.slice none 0 0) := ⟨_, rfl⟩
    rw [← hwa] at M2 ⊢
    clear hwa cN cO cB fB cO2
    go_loopw [31] (fun i wr => ∃ r : Nat, r ≤ n ∧ i = .int .i64 (r : Int) ∧ ∃ v', MI w0 n pB gr o v' ((gridL n o).take r) wr) (fun i _ => n - (intOf i).toNat)
    case atStart => exact ⟨0, by omega, rfl, _, M2.out⟩
    case round => as_aux_lemma =>
      obtain ⟨r, hr, rfl, v', hm⟩ := hrel
      have HMr := Lib.hid hm
      by_cases hlt : r < n
      · obtain ⟨vs, hvs1, hvs2, hvs3⟩ := hm.2.2.2
        have cr := hm.read (HC.out.out r hlt)
        have cBr := hm.var
        have HSZ : Hid (w0.heap.size ≤ wr.heap.size) := hm.size
        have hvl : Hid (vs.length ≤ 1000000) := by
          show vs.length ≤ 1000000
          rw [hvs2, List.length_take]; omega
        have HI : Hid (Ints wr (some ⟨gr r, 0, none⟩) n (lineM n o r)) := (hm.2.1 r hlt).ints' (lineM_len n o r) (by omega)
        have HN : Hid ((gridL n o).take (r + 1) = (gridL n o).take r ++ [lineM n o r]) := by
          show (gridL n o).take (r + 1) = (gridL n o).take r ++ [lineM n o r]
          rw [List.take_succ_eq_append_getElem (by rw [gridL_len]; exact hlt)]
          congr 2
          have := gridL_get o hlt
          simpa [List.getD_eq_getElem?_getD, gridL_len, hlt] using this
        have K68 : Hid (∀ W, W.heap = wr.heap → Calls Tryd.prog 68 #[.slice (some ⟨gr r, 0, none⟩) n n] W fun e w' => ∃ A c, e = .returned (.slice A n c) ∧ Row w' W.heap.size (.slice A n c) (lineM n o r) ∧ Below W.heap.size W w') := fun W h => by
          refine (f68_any (some ⟨gr r, 0, none⟩) n n (lineM n o r) W (by have h2 := HI.out; unfold Ints World.cell? at h2 ⊢; rw [h]; exact h2) (fun h => absurd h (by simp)) (by omega)).mono ?_
          rintro e w' ⟨v, rfl, h1, h2⟩
          have hll := lineM_len n o r
          obtain ⟨A, c, rfl, _⟩ := h1.form3 (by omega)
          rw [hll] at h1 ⊢
          exact ⟨A, c, rfl, h1, h2⟩
        have HV : Hid (∀ W, Below wr.heap.size wr W → W.cell? ⟨pB, 0, none⟩ = some v') := Lib.hid fun W h => (hm.below h).var
        have R1 : Hid (∀ W, Below wr.heap.size wr W → RowV W w0.heap.size v' vs) := Lib.hid fun W h => hvs1.below h
        have HP := Lib.hid (fun (W w' : World) (u v2 : Value) (hb : Below wr.heap.size wr W) (hu : Row W w0.heap.size u (lineM n o r)) (hg : W.grownBy w' v'.ownBlock) (hr : RowV w' w0.heap.size v2 (vs ++ [u])) => (⟨hm.push HC.out hvs1 hvs2 hvs3 hb hu hg hr, hm.pushVar HC.out hvs1 hb hg⟩ : _ ∧ _))
        have r0 : (0 : Int) ≤ (r : Int) := by omega
        have rn : (r : Int) < (n : Int) := by omega
        clear hm hvs1 hvs2 hvs3
        go_wp2_with fail
        refine wp_region_held_drew (S := fun _ => True) (by kernel_rfl) trivial (fun _ => ?_)
        refine wpAnyH_take (i := 1) (oi := { dst := some 36, op := Op.move (Operand.tmp 8), type := 29, pos := "mate.go:104", after := #[], guard := none }) (v := .slice (some ⟨gr r, 0, none⟩) n n) rfl (by kernel_rfl) (by kernel_rfl) (by kernel_rfl) (fun _ _ _ h => h) (Or.inl ⟨by kernel_rfl, fun W _ => by kernel_rfl⟩) trivial ?_
        try simp only [Act.put, List.setIfInBounds_toArray, List.set_cons_zero, List.set_cons_succ]
        refine wpAnyH_ready (rs := [0, 2]) (by kernel_rfl) (by simp) ?_
        refine AllReadyH.cons (o := { dst := some 35, op := Op.load 22 (Operand.tmp 2), type := 22, pos := "mate.go:104", after := #[], guard := none }) rfl (fun K hK => ?_) (AllReadyH.cons (o := { dst := some 37, op := Op.call { callee := Callee.value (Operand.func 68), args := #[Operand.tmp 36], argTypes := #[29] }, type := 29, pos := "mate.go:104", after := #[{ on := 1, ground := Ground.data }], guard := none }) rfl (fun K hK => ?_) AllReadyH.nil)
        · skip
          go_simp
          refine hK.out _ _ trivial (fun _ => ?_)
          clear hK K
          try simp only [Act.put, List.setIfInBounds_toArray, List.set_cons_zero, List.set_cons_succ]
          refine wpAnyH_ready (rs := [2]) (by kernel_rfl) (by simp) ?_
          refine AllReadyH.cons (o := { dst := some 37, op := Op.call { callee := Callee.value (Operand.func 68), args := #[Operand.tmp 36], argTypes := #[29] }, type := 29, pos := "mate.go:104", after := #[{ on := 1, ground := Ground.data }], guard := none }) rfl (fun K hK => ?_) AllReadyH.nil
          go_simp
          refine (K68.out _ (by rfl)).mono ?_
          rintro e w4 ⟨A4, c4, rfl, hr4, hb4⟩
          have hq1 : Below wr.heap.size wr w4 := (by first | exact hb4 | exact below_step (a := wr) (b := wr.drew) (below_drewN (Below.refl _ _) 1) hb4)
          have HR4 : Hid (Row w4 w0.heap.size (.slice A4 n c4) (lineM n o r)) := Lib.hid (hr4.mono HSZ.out)
          have HQ1 := Lib.hid hq1
          have hv4 := HV.out _ hq1
          have HQ5 : Hid (Below wr.heap.size wr (w4.alloc (.cells #[.slice A4 n c4] 29))) := Lib.hid (hq1.alloc hq1.size _)
          have hv5 := HV.out _ HQ5.out
          have R5 : Hid (∀ W : World, W.heap = (w4.alloc (.cells #[.slice A4 n c4] 29)).heap → W.cell? ⟨w4.heap.size, 0, none⟩ = some (.slice A4 n c4)) := Lib.hid fun W e => by
            rw [World.cell?_of_block (congrArg (fun h => h[w4.heap.size]?) e), cell_of_row _ _ 0 _ _ _ (heap_alloc_new w4 _)]; rfl
          clear hr4 hb4 hq1
          refine hK.out _ _ trivial (fun _ => ?_)
          clear hK K
          try simp only [Act.put, List.setIfInBounds_toArray, List.set_cons_zero, List.set_cons_succ]
          refine wpAnyH_ready (rs := [3]) (by kernel_rfl) (by simp) ?_
          refine AllReadyH.cons (o := { dst := some 38, op := Op.buildSlice 22 1 #[(0, Operand.tmp 37)], type := 22, pos := "mate.go:104", after := #[{ on := 2, ground := Ground.data }], guard := none }) rfl (fun K hK => ?_) AllReadyH.nil
          go_simp
          refine hK.out _ _ trivial (fun _ => ?_)
          clear hK K
          try simp only [Act.put, List.setIfInBounds_toArray, List.set_cons_zero, List.set_cons_succ]
          refine wpAnyH_ready (rs := [4]) (by kernel_rfl) (by simp) ?_
          refine AllReadyH.cons (o := { dst := some 39, op := Op.call { callee := Callee.builtin Builtin.append, args := #[Operand.tmp 35, Operand.tmp 38], argTypes := #[22, 22] }, type := 22, pos := "mate.go:104", after := #[{ on := 0, ground := Ground.data }, { on := 3, ground := Ground.data }, { on := 2, ground := Ground.chain }], guard := none }) rfl (fun K hK => ?_) AllReadyH.nil
          refine step_pushV (by rfl) _ _ (by rfl) w0.heap.size v' vs (by rfl) (R1.out _ (by first | exact HQ5.out | exact HQ5.out.drew)) w4.heap.size 1 A4 n c4 (by rfl) (R5.out _ (by rfl)) hvl.out (Nat.le_trans HSZ.out (Below.size (by first | exact HQ5.out | exact HQ5.out.drew))) ?_
          intro v2 w' hr' hg' _
          obtain ⟨HP1, HP2, HP3⟩ := HP.out _ _ _ _ (by first | exact HQ5.out | exact HQ5.out.drew) (Row.below HR4.out (by first | exact below_alloc w4 _ | exact (below_alloc w4 _).drew)) hg' hr'
          obtain ⟨A2, c2, e2, _⟩ := hr'.form
          generalize (vs ++ [Value.slice A4 n c4]).length = len2 at e2
          subst e2
          have HQ2 := Lib.hid HP1
          clear HP1 hg' hr'
          refine hK.out _ _ trivial (fun _ => ?_)
          clear hK K
          try simp only [Act.put, List.setIfInBounds_toArray, List.set_cons_zero, List.set_cons_succ]
          refine wpAnyH_ready (rs := [5]) (by kernel_rfl) (by simp) ?_
          refine AllReadyH.cons (o := { dst := none, op := Op.store 22 (Operand.tmp 2) (Operand.tmp 39), type := 0, pos := "mate.go:104", after := #[{ on := 4, ground := Ground.data }, { on := 4, ground := Ground.chain }, { on := 0, ground := Ground.phase }, { on := 1, ground := Ground.phase }, { on := 2, ground := Ground.phase }, { on := 3, ground := Ground.phase }, { on := 4, ground := Ground.phase }], guard := none }) rfl (fun K hK => ?_) AllReadyH.nil
          go_simp
          refine hK.out _ _ trivial (fun _ => ?_)
          clear hK K
          try simp only [Act.put, List.setIfInBounds_toArray, List.set_cons_zero, List.set_cons_succ]
          refine wpAnyH_done (by kernel_rfl) ?_ _
          go_wp2
          go_roundw
          case rel => exact ⟨r + 1, by omega, by go_num, _, by rw [HN.out]; exact HQ2.out⟩
          case measure => simp [intOf]; omega
        · skip
          go_simp
          refine (K68.out _ (by rfl)).mono ?_
          rintro e w4 ⟨A4, c4, rfl, hr4, hb4⟩
          have hq1 : Below wr.heap.size wr w4 := (by first | exact hb4 | exact below_step (a := wr) (b := wr.drew) (below_drewN (Below.refl _ _) 1) hb4)
          have HR4 : Hid (Row w4 w0.heap.size (.slice A4 n c4) (lineM n o r)) := Lib.hid (hr4.mono HSZ.out)
          have HQ1 := Lib.hid hq1
          have hv4 := HV.out _ hq1
          have HQ5 : Hid (Below wr.heap.size wr (w4.alloc (.cells #[.slice A4 n c4] 29))) := Lib.hid (hq1.alloc hq1.size _)
          have hv5 := HV.out _ HQ5.out
          have R5 : Hid (∀ W : World, W.heap = (w4.alloc (.cells #[.slice A4 n c4] 29)).heap → W.cell? ⟨w4.heap.size, 0, none⟩ = some (.slice A4 n c4)) := Lib.hid fun W e => by
            rw [World.cell?_of_block (congrArg (fun h => h[w4.heap.size]?) e), cell_of_row _ _ 0 _ _ _ (heap_alloc_new w4 _)]; rfl
          clear hr4 hb4 hq1
          refine hK.out _ _ trivial (fun _ => ?_)
          clear hK K
          try simp only [Act.put, List.setIfInBounds_toArray, List.set_cons_zero, List.set_cons_succ]
          refine wpAnyH_ready (rs := [0, 3]) (by kernel_rfl) (by simp) ?_
          refine AllReadyH.cons (o := { dst := some 35, op := Op.load 22 (Operand.tmp 2), type := 22, pos := "mate.go:104", after := #[], guard := none }) rfl (fun K hK => ?_) (AllReadyH.cons (o := { dst := some 38, op := Op.buildSlice 22 1 #[(0, Operand.tmp 37)], type := 22, pos := "mate.go:104", after := #[{ on := 2, ground := Ground.data }], guard := none }) rfl (fun K hK => ?_) AllReadyH.nil)
          · skip
            go_simp
            refine hK.out _ _ trivial (fun _ => ?_)
            clear hK K
            try simp only [Act.put, List.setIfInBounds_toArray, List.set_cons_zero, List.set_cons_succ]
            refine wpAnyH_ready (rs := [3]) (by kernel_rfl) (by simp) ?_
            refine AllReadyH.cons (o := { dst := some 38, op := Op.buildSlice 22 1 #[(0, Operand.tmp 37)], type := 22, pos := "mate.go:104", after := #[{ on := 2, ground := Ground.data }], guard := none }) rfl (fun K hK => ?_) AllReadyH.nil
            go_simp
            refine hK.out _ _ trivial (fun _ => ?_)
            clear hK K
            try simp only [Act.put, List.setIfInBounds_toArray, List.set_cons_zero, List.set_cons_succ]
            refine wpAnyH_ready (rs := [4]) (by kernel_rfl) (by simp) ?_
            refine AllReadyH.cons (o := { dst := some 39, op := Op.call { callee := Callee.builtin Builtin.append, args := #[Operand.tmp 35, Operand.tmp 38], argTypes := #[22, 22] }, type := 22, pos := "mate.go:104", after := #[{ on := 0, ground := Ground.data }, { on := 3, ground := Ground.data }, { on := 2, ground := Ground.chain }], guard := none }) rfl (fun K hK => ?_) AllReadyH.nil
            refine step_pushV (by rfl) _ _ (by rfl) w0.heap.size v' vs (by rfl) (R1.out _ (by first | exact HQ5.out | exact HQ5.out.drew)) w4.heap.size 1 A4 n c4 (by rfl) (R5.out _ (by rfl)) hvl.out (Nat.le_trans HSZ.out (Below.size (by first | exact HQ5.out | exact HQ5.out.drew))) ?_
            intro v2 w' hr' hg' _
            obtain ⟨HP1, HP2, HP3⟩ := HP.out _ _ _ _ (by first | exact HQ5.out | exact HQ5.out.drew) (Row.below HR4.out (by first | exact below_alloc w4 _ | exact (below_alloc w4 _).drew)) hg' hr'
            obtain ⟨A2, c2, e2, _⟩ := hr'.form
            generalize (vs ++ [Value.slice A4 n c4]).length = len2 at e2
            subst e2
            have HQ2 := Lib.hid HP1
            clear HP1 hg' hr'
            refine hK.out _ _ trivial (fun _ => ?_)
            clear hK K
            try simp only [Act.put, List.setIfInBounds_toArray, List.set_cons_zero, List.set_cons_succ]
            refine wpAnyH_ready (rs := [5]) (by kernel_rfl) (by simp) ?_
            refine AllReadyH.cons (o := { dst := none, op := Op.store 22 (Operand.tmp 2) (Operand.tmp 39), type := 0, pos := "mate.go:104", after := #[{ on := 4, ground := Ground.data }, { on := 4, ground := Ground.chain }, { on := 0, ground := Ground.phase }, { on := 1, ground := Ground.phase }, { on := 2, ground := Ground.phase }, { on := 3, ground := Ground.phase }, { on := 4, ground := Ground.phase }], guard := none }) rfl (fun K hK => ?_) AllReadyH.nil
            go_simp
            refine hK.out _ _ trivial (fun _ => ?_)
            clear hK K
            try simp only [Act.put, List.setIfInBounds_toArray, List.set_cons_zero, List.set_cons_succ]
            refine wpAnyH_done (by kernel_rfl) ?_ _
            go_wp2
            go_roundw
            case rel => exact ⟨r + 1, by omega, by go_num, _, by rw [HN.out]; exact HQ2.out⟩
            case measure => simp [intOf]; omega
          · skip
            go_simp
            refine hK.out _ _ trivial (fun _ => ?_)
            clear hK K
            try simp only [Act.put, List.setIfInBounds_toArray, List.set_cons_zero, List.set_cons_succ]
            refine wpAnyH_ready (rs := [0]) (by kernel_rfl) (by simp) ?_
            refine AllReadyH.cons (o := { dst := some 35, op := Op.load 22 (Operand.tmp 2), type := 22, pos := "mate.go:104", after := #[], guard := none }) rfl (fun K hK => ?_) AllReadyH.nil
            go_simp
            refine hK.out _ _ trivial (fun _ => ?_)
            clear hK K
            try simp only [Act.put, List.setIfInBounds_toArray, List.set_cons_zero, List.set_cons_succ]
            refine wpAnyH_ready (rs := [4]) (by kernel_rfl) (by simp) ?_
            refine AllReadyH.cons (o := { dst := some 39, op := Op.call { callee := Callee.builtin Builtin.append, args := #[Operand.tmp 35, Operand.tmp 38], argTypes := #[22, 22] }, type := 22, pos := "mate.go:104", after := #[{ on := 0, ground := Ground.data }, { on := 3, ground := Ground.data }, { on := 2, ground := Ground.chain }], guard := none }) rfl (fun K hK => ?_) AllReadyH.nil
            refine step_pushV (by rfl) _ _ (by rfl) w0.heap.size v' vs (by rfl) (R1.out _ (by first | exact HQ5.out | exact HQ5.out.drew)) w4.heap.size 1 A4 n c4 (by rfl) (R5.out _ (by rfl)) hvl.out (Nat.le_trans HSZ.out (Below.size (by first | exact HQ5.out | exact HQ5.out.drew))) ?_
            intro v2 w' hr' hg' _
            obtain ⟨HP1, HP2, HP3⟩ := HP.out _ _ _ _ (by first | exact HQ5.out | exact HQ5.out.drew) (Row.below HR4.out (by first | exact below_alloc w4 _ | exact (below_alloc w4 _).drew)) hg' hr'
            obtain ⟨A2, c2, e2, _⟩ := hr'.form
            generalize (vs ++ [Value.slice A4 n c4]).length = len2 at e2
            subst e2
            have HQ2 := Lib.hid HP1
            clear HP1 hg' hr'
            refine hK.out _ _ trivial (fun _ => ?_)
            clear hK K
            try simp only [Act.put, List.setIfInBounds_toArray, List.set_cons_zero, List.set_cons_succ]
            refine wpAnyH_ready (rs := [5]) (by kernel_rfl) (by simp) ?_
            refine AllReadyH.cons (o := { dst := none, op := Op.store 22 (Operand.tmp 2) (Operand.tmp 39), type := 0, pos := "mate.go:104", after := #[{ on := 4, ground := Ground.data }, { on := 4, ground := Ground.chain }, { on := 0, ground := Ground.phase }, { on := 1, ground := Ground.phase }, { on := 2, ground := Ground.phase }, { on := 3, ground := Ground.phase }, { on := 4, ground := Ground.phase }], guard := none }) rfl (fun K hK => ?_) AllReadyH.nil
            go_simp
            refine hK.out _ _ trivial (fun _ => ?_)
            clear hK K
            try simp only [Act.put, List.setIfInBounds_toArray, List.set_cons_zero, List.set_cons_succ]
            refine wpAnyH_done (by kernel_rfl) ?_ _
            go_wp2
            go_roundw
            case rel => exact ⟨r + 1, by omega, by go_num, _, by rw [HN.out]; exact HQ2.out⟩
            case measure => simp [intOf]; omega
      · obtain rfl : r = n := by omega
        have HF : Hid (MI w0 r pB gr o v' (gridL r o) wr) := by
          have h := HMr.out
          rw [List.take_of_length_le (by rw [gridL_len]; omega)] at h
          exact h
        clear hm HMr
        go_wp2
        ((try simp only [Exit.inBlock, Exit.then]); refine bodyPost_ret (results_none rfl _ _ _) rfl ?_)
        exact ⟨rfl, v', by rw [HU.out]; exact HF.out, fun h => absurd (HU.out.symm.trans h) hne⟩
  · have hsq : sqShape n best := hG.resolve_left hb0
    have K65 := Lib.hid (f65_any (some ⟨gO, 0, none⟩) A n n n c (gridL n o) best w (hM.outB hC hn (by omega)) (by have := hbn.beds; rw [hsq.1] at this; exact this) (fun i hi => (gridL_shape n o).2 i hi) (fun i hi => hsq.2 i hi))
    rw [hsq.1] at hv
    obtain ⟨ba, oa, hA, _⟩ := hbn.2.2.2.2 (by rw [hsq.1]; exact hn)
    subst hA hv
    by_cases hlt : cmpG (gridL n o) best < 0
    · have HU : Hid (mtF n T 0 n o best = gridL n o) := by show updM n o best = gridL n o; unfold updM; rw [if_neg hb0, if_pos hlt]
      have hq2 : decide (cmpG (gridL n o) best < 0) = true := decide_eq_true hlt
      generalize cmpG (gridL n o) best = z at *
      have hen := enter66
      clear hM hC hG hnil ho hbn hlt
      have cO2 := (HM.out.setB HC.out (BRow.nil w w0.heap.size)).read HC.out.cO
      have M2 := Lib.hid (HM.out.setB HC.out (BRow.nil w w0.heap.size))
      go_enter Tryd.func64, Tryd.ntmps64
      go_wp2_with fail
      refine K65.out.mono ?_
      rintro e w1 ⟨rfl, rfl⟩
      go_wp2
      obtain ⟨wa, hwa⟩ : ∃ z, z = w.setCell ⟨pB, 0, none⟩ (.slice none 0 0) := ⟨_, rfl⟩
      rw [← hwa] at M2 ⊢
      clear hwa cN cO cB fB cO2
      go_loopw [31] (fun i wr => ∃ r : Nat, r ≤ n ∧ i = .int .i64 (r : Int) ∧ ∃ v', MI w0 n pB gr o v' ((gridL n o).take r) wr) (fun i _ => n - (intOf i).toNat)
      case atStart => exact ⟨0, by omega, rfl, _, M2.out⟩
      case round => as_aux_lemma =>
        obtain ⟨r, hr, rfl, v', hm⟩ := hrel
        have HMr := Lib.hid hm
        by_cases hlt : r < n
        · obtain ⟨vs, hvs1, hvs2, hvs3⟩ := hm.2.2.2
          have cr := hm.read (HC.out.out r hlt)
          have cBr := hm.var
          have HSZ : Hid (w0.heap.size ≤ wr.heap.size) := hm.size
          have hvl : Hid (vs.length ≤ 1000000) := by
            show vs.length ≤ 1000000
            rw [hvs2, List.length_take]; omega
          have HI : Hid (Ints wr (some ⟨gr r, 0, none⟩) n (lineM n o r)) := (hm.2.1 r hlt).ints' (lineM_len n o r) (by omega)
          have HN : Hid ((gridL n o).take (r + 1) = (gridL n o).take r ++ [lineM n o r]) := by
            show (gridL n o).take (r + 1) = (gridL n o).take r ++ [lineM n o r]
            rw [List.take_succ_eq_append_getElem (by rw [gridL_len]; exact hlt)]
            congr 2
            have := gridL_get o hlt
            simpa [List.getD_eq_getElem?_getD, gridL_len, hlt] using this
          have K68 : Hid (∀ W, W.heap = wr.heap → Calls Tryd.prog 68 #[.slice (some ⟨gr r, 0, none⟩) n n] W fun e w' => ∃ A c, e = .returned (.slice A n c) ∧ Row w' W.heap.size (.slice A n c) (lineM n o r) ∧ Below W.heap.size W w') := fun W h => by
            refine (f68_any (some ⟨gr r, 0, none⟩) n n (lineM n o r) W (by have h2 := HI.out; unfold Ints World.cell? at h2 ⊢; rw [h]; exact h2) (fun h => absurd h (by simp)) (by omega)).mono ?_
            rintro e w' ⟨v, rfl, h1, h2⟩
            have hll := lineM_len n o r
            obtain ⟨A, c, rfl, _⟩ := h1.form3 (by omega)
            rw [hll] at h1 ⊢
            exact ⟨A, c, rfl, h1, h2⟩
          have HV : Hid (∀ W, Below wr.heap.size wr W → W.cell? ⟨pB, 0, none⟩ = some v') := Lib.hid fun W h => (hm.below h).var
          have R1 : Hid (∀ W, Below wr.heap.size wr W → RowV W w0.heap.size v' vs) := Lib.hid fun W h => hvs1.below h
          have HP := Lib.hid (fun (W w' : World) (u v2 : Value) (hb : Below wr.heap.size wr W) (hu : Row W w0.heap.size u (lineM n o r)) (hg : W.grownBy w' v'.ownBlock) (hr : RowV w' w0.heap.size v2 (vs ++ [u])) => (⟨hm.push HC.out hvs1 hvs2 hvs3 hb hu hg hr, hm.pushVar HC.out hvs1 hb hg⟩ : _ ∧ _))
          have r0 : (0 : Int) ≤ (r : Int) := by omega
          have rn : (r : Int) < (n : Int) := by omega
          clear hm hvs1 hvs2 hvs3
          go_wp2_with fail
          refine wp_region_held_drew (S := fun _ => True) (by kernel_rfl) trivial (fun _ => ?_)
          refine wpAnyH_take (i := 1) (oi := { dst := some 36, op := Op.move (Operand.tmp 8), type := 29, pos := "mate.go:104", after := #[], guard := none }) (v := .slice (some ⟨gr r, 0, none⟩) n n) rfl (by kernel_rfl) (by kernel_rfl) (by kernel_rfl) (fun _ _ _ h => h) (Or.inl ⟨by kernel_rfl, fun W _ => by kernel_rfl⟩) trivial ?_
          try simp only [Act.put, List.setIfInBounds_toArray, List.set_cons_zero, List.set_cons_succ]
          refine wpAnyH_ready (rs := [0, 2]) (by kernel_rfl) (by simp) ?_
          refine AllReadyH.cons (o := { dst := some 35, op := Op.load 22 (Operand.tmp 2), type := 22, pos := "mate.go:104", after := #[], guard := none }) rfl (fun K hK => ?_) (AllReadyH.cons (o := { dst := some 37, op := Op.call { callee := Callee.value (Operand.func 68), args := #[Operand.tmp 36], argTypes := #[29] }, type := 29, pos := "mate.go:104", after := #[{ on := 1, ground := Ground.data }], guard := none }) rfl (fun K hK => ?_) AllReadyH.nil)
          · skip
            go_simp
            refine hK.out _ _ trivial (fun _ => ?_)
            clear hK K
            try simp only [Act.put, List.setIfInBounds_toArray, List.set_cons_zero, List.set_cons_succ]
            refine wpAnyH_ready (rs := [2]) (by kernel_rfl) (by simp) ?_
            refine AllReadyH.cons (o := { dst := some 37, op := Op.call { callee := Callee.value (Operand.func 68), args := #[Operand.tmp 36], argTypes := #[29] }, type := 29, pos := "mate.go:104", after := #[{ on := 1, ground := Ground.data }], guard := none }) rfl (fun K hK => ?_) AllReadyH.nil
            go_simp
            refine (K68.out _ (by rfl)).mono ?_
            rintro e w4 ⟨A4, c4, rfl, hr4, hb4⟩
            have hq1 : Below wr.heap.size wr w4 := (by first | exact hb4 | exact below_step (a := wr) (b := wr.drew) (below_drewN (Below.refl _ _) 1) hb4)
            have HR4 : Hid (Row w4 w0.heap.size (.slice A4 n c4) (lineM n o r)) := Lib.hid (hr4.mono HSZ.out)
            have HQ1 := Lib.hid hq1
            have hv4 := HV.out _ hq1
            have HQ5 : Hid (Below wr.heap.size wr (w4.alloc (.cells #[.slice A4 n c4] 29))) := Lib.hid (hq1.alloc hq1.size _)
            have hv5 := HV.out _ HQ5.out
            have R5 : Hid (∀ W : World, W.heap = (w4.alloc (.cells #[.slice A4 n c4] 29)).heap → W.cell? ⟨w4.heap.size, 0, none⟩ = some (.slice A4 n c4)) := Lib.hid fun W e => by
              rw [World.cell?_of_block (congrArg (fun h => h[w4.heap.size]?) e), cell_of_row _ _ 0 _ _ _ (heap_alloc_new w4 _)]; rfl
            clear hr4 hb4 hq1
            refine hK.out _ _ trivial (fun _ => ?_)
            clear hK K
            try simp only [Act.put, List.setIfInBounds_toArray, List.set_cons_zero, List.set_cons_succ]
            refine wpAnyH_ready (rs := [3]) (by kernel_rfl) (by simp) ?_
            refine AllReadyH.cons (o := { dst := some 38, op := Op.buildSlice 22 1 #[(0, Operand.tmp 37)], type := 22, pos := "mate.go:104", after := #[{ on := 2, ground := Ground.data }], guard := none }) rfl (fun K hK => ?_) AllReadyH.nil
            go_simp
            refine hK.out _ _ trivial (fun _ => ?_)
            clear hK K
            try simp only [Act.put, List.setIfInBounds_toArray, List.set_cons_zero, List.set_cons_succ]
            refine wpAnyH_ready (rs := [4]) (by kernel_rfl) (by simp) ?_
            refine AllReadyH.cons (o := { dst := some 39, op := Op.call { callee := Callee.builtin Builtin.append, args := #[Operand.tmp 35, Operand.tmp 38], argTypes := #[22, 22] }, type := 22, pos := "mate.go:104", after := #[{ on := 0, ground := Ground.data }, { on := 3, ground := Ground.data }, { on := 2, ground := Ground.chain }], guard := none }) rfl (fun K hK => ?_) AllReadyH.nil
            refine step_pushV (by rfl) _ _ (by rfl) w0.heap.size v' vs (by rfl) (R1.out _ (by first | exact HQ5.out | exact HQ5.out.drew)) w4.heap.size 1 A4 n c4 (by rfl) (R5.out _ (by rfl)) hvl.out (Nat.le_trans HSZ.out (Below.size (by first | exact HQ5.out | exact HQ5.out.drew))) ?_
            intro v2 w' hr' hg' _
            obtain ⟨HP1, HP2, HP3⟩ := HP.out _ _ _ _ (by first | exact HQ5.out | exact HQ5.out.drew) (Row.below HR4.out (by first | exact below_alloc w4 _ | exact (below_alloc w4 _).drew)) hg' hr'
            obtain ⟨A2, c2, e2, _⟩ := hr'.form
            generalize (vs ++ [Value.slice A4 n c4]).length = len2 at e2
            subst e2
            have HQ2 := Lib.hid HP1
            clear HP1 hg' hr'
            refine hK.out _ _ trivial (fun _ => ?_)
            clear hK K
            try simp only [Act.put, List.setIfInBounds_toArray, List.set_cons_zero, List.set_cons_succ]
            refine wpAnyH_ready (rs := [5]) (by kernel_rfl) (by simp) ?_
            refine AllReadyH.cons (o := { dst := none, op := Op.store 22 (Operand.tmp 2) (Operand.tmp 39), type := 0, pos := "mate.go:104", after := #[{ on := 4, ground := Ground.data }, { on := 4, ground := Ground.chain }, { on := 0, ground := Ground.phase }, { on := 1, ground := Ground.phase }, { on := 2, ground := Ground.phase }, { on := 3, ground := Ground.phase }, { on := 4, ground := Ground.phase }], guard := none }) rfl (fun K hK => ?_) AllReadyH.nil
            go_simp
            refine hK.out _ _ trivial (fun _ => ?_)
            clear hK K
            try simp only [Act.put, List.setIfInBounds_toArray, List.set_cons_zero, List.set_cons_succ]
            refine wpAnyH_done (by kernel_rfl) ?_ _
            go_wp2
            go_roundw
            case rel => exact ⟨r + 1, by omega, by go_num, _, by rw [HN.out]; exact HQ2.out⟩
            case measure => simp [intOf]; omega
          · skip
            go_simp
            refine (K68.out _ (by rfl)).mono ?_
            rintro e w4 ⟨A4, c4, rfl, hr4, hb4⟩
            have hq1 : Below wr.heap.size wr w4 := (by first | exact hb4 | exact below_step (a := wr) (b := wr.drew) (below_drewN (Below.refl _ _) 1) hb4)
            have HR4 : Hid (Row w4 w0.heap.size (.slice A4 n c4) (lineM n o r)) := Lib.hid (hr4.mono HSZ.out)
            have HQ1 := Lib.hid hq1
            have hv4 := HV.out _ hq1
            have HQ5 : Hid (Below wr.heap.size wr (w4.alloc (.cells #[.slice A4 n c4] 29))) := Lib.hid (hq1.alloc hq1.size _)
            have hv5 := HV.out _ HQ5.out
            have R5 : Hid (∀ W : World, W.heap = (w4.alloc (.cells #[.slice A4 n c4] 29)).heap → W.cell? ⟨w4.heap.size, 0, none⟩ = some (.slice A4 n c4)) := Lib.hid fun W e => by
              rw [World.cell?_of_block (congrArg (fun h => h[w4.heap.size]?) e), cell_of_row _ _ 0 _ _ _ (heap_alloc_new w4 _)]; rfl
            clear hr4 hb4 hq1
            refine hK.out _ _ trivial (fun _ => ?_)
            clear hK K
            try simp only [Act.put, List.setIfInBounds_toArray, List.set_cons_zero, List.set_cons_succ]
            refine wpAnyH_ready (rs := [0, 3]) (by kernel_rfl) (by simp) ?_
            refine AllReadyH.cons (o := { dst := some 35, op := Op.load 22 (Operand.tmp 2), type := 22, pos := "mate.go:104", after := #[], guard := none }) rfl (fun K hK => ?_) (AllReadyH.cons (o := { dst := some 38, op := Op.buildSlice 22 1 #[(0, Operand.tmp 37)], type := 22, pos := "mate.go:104", after := #[{ on := 2, ground := Ground.data }], guard := none }) rfl (fun K hK => ?_) AllReadyH.nil)
            · skip
              go_simp
              refine hK.out _ _ trivial (fun _ => ?_)
              clear hK K
              try simp only [Act.put, List.setIfInBounds_toArray, List.set_cons_zero, List.set_cons_succ]
              refine wpAnyH_ready (rs := [3]) (by kernel_rfl) (by simp) ?_
              refine AllReadyH.cons (o := { dst := some 38, op := Op.buildSlice 22 1 #[(0, Operand.tmp 37)], type := 22, pos := "mate.go:104", after := #[{ on := 2, ground := Ground.data }], guard := none }) rfl (fun K hK => ?_) AllReadyH.nil
              go_simp
              refine hK.out _ _ trivial (fun _ => ?_)
              clear hK K
              try simp only [Act.put, List.setIfInBounds_toArray, List.set_cons_zero, List.set_cons_succ]
              refine wpAnyH_ready (rs := [4]) (by kernel_rfl) (by simp) ?_
              refine AllReadyH.cons (o := { dst := some 39, op := Op.call { callee := Callee.builtin Builtin.append, args := #[Operand.tmp 35, Operand.tmp 38], argTypes := #[22, 22] }, type := 22, pos := "mate.go:104", after := #[{ on := 0, ground := Ground.data }, { on := 3, ground := Ground.data }, { on := 2, ground := Ground.chain }], guard := none }) rfl (fun K hK => ?_) AllReadyH.nil
              refine step_pushV (by rfl) _ _ (by rfl) w0.heap.size v' vs (by rfl) (R1.out _ (by first | exact HQ5.out | exact HQ5.out.drew)) w4.heap.size 1 A4 n c4 (by rfl) (R5.out _ (by rfl)) hvl.out (Nat.le_trans HSZ.out (Below.size (by first | exact HQ5.out | exact HQ5.out.drew))) ?_
              intro v2 w' hr' hg' _
              obtain ⟨HP1, HP2, HP3⟩ := HP.out _ _ _ _ (by first | exact HQ5.out | exact HQ5.out.drew) (Row.below HR4.out (by first | exact below_alloc w4 _ | exact (below_alloc w4 _).drew)) hg' hr'
              obtain ⟨A2, c2, e2, _⟩ := hr'.form
              generalize (vs ++ [Value.slice A4 n c4]).length = len2 at e2
              subst e2
              have HQ2 := Lib.hid HP1
              clear HP1 hg' hr'
              refine hK.out _ _ trivial (fun _ => ?_)
              clear hK K
              try simp only [Act.put, List.setIfInBounds_toArray, List.set_cons_zero, List.set_cons_succ]
              refine wpAnyH_ready (rs := [5]) (by kernel_rfl) (by simp) ?_
              refine AllReadyH.cons (o := { dst := none, op := Op.store 22 (Operand.tmp 2) (Operand.tmp 39), type := 0, pos := "mate.go:104", after := #[{ on := 4, ground := Ground.data }, { on := 4, ground := Ground.chain }, { on := 0, ground := Ground.phase }, { on := 1, ground := Ground.phase }, { on := 2, ground := Ground.phase }, { on := 3, ground := Ground.phase }, { on := 4, ground := Ground.phase }], guard := none }) rfl (fun K hK => ?_) AllReadyH.nil
              go_simp
              refine hK.out _ _ trivial (fun _ => ?_)
              clear hK K
              try simp only [Act.put, List.setIfInBounds_toArray, List.set_cons_zero, List.set_cons_succ]
              refine wpAnyH_done (by kernel_rfl) ?_ _
              go_wp2
              go_roundw
              case rel => exact ⟨r + 1, by omega, by go_num, _, by rw [HN.out]; exact HQ2.out⟩
              case measure => simp [intOf]; omega
            · skip
              go_simp
              refine hK.out _ _ trivial (fun _ => ?_)
              clear hK K
              try simp only [Act.put, List.setIfInBounds_toArray, List.set_cons_zero, List.set_cons_succ]
              refine wpAnyH_ready (rs := [0]) (by kernel_rfl) (by simp) ?_
              refine AllReadyH.cons (o := { dst := some 35, op := Op.load 22 (Operand.tmp 2), type := 22, pos := "mate.go:104", after := #[], guard := none }) rfl (fun K hK => ?_) AllReadyH.nil
              go_simp
              refine hK.out _ _ trivial (fun _ => ?_)
              clear hK K
              try simp only [Act.put, List.setIfInBounds_toArray, List.set_cons_zero, List.set_cons_succ]
              refine wpAnyH_ready (rs := [4]) (by kernel_rfl) (by simp) ?_
              refine AllReadyH.cons (o := { dst := some 39, op := Op.call { callee := Callee.builtin Builtin.append, args := #[Operand.tmp 35, Operand.tmp 38], argTypes := #[22, 22] }, type := 22, pos := "mate.go:104", after := #[{ on := 0, ground := Ground.data }, { on := 3, ground := Ground.data }, { on := 2, ground := Ground.chain }], guard := none }) rfl (fun K hK => ?_) AllReadyH.nil
              refine step_pushV (by rfl) _ _ (by rfl) w0.heap.size v' vs (by rfl) (R1.out _ (by first | exact HQ5.out | exact HQ5.out.drew)) w4.heap.size 1 A4 n c4 (by rfl) (R5.out _ (by rfl)) hvl.out (Nat.le_trans HSZ.out (Below.size (by first | exact HQ5.out | exact HQ5.out.drew))) ?_
              intro v2 w' hr' hg' _
              obtain ⟨HP1, HP2, HP3⟩ := HP.out _ _ _ _ (by first | exact HQ5.out | exact HQ5.out.drew) (Row.below HR4.out (by first | exact below_alloc w4 _ | exact (below_alloc w4 _).drew)) hg' hr'
              obtain ⟨A2, c2, e2, _⟩ := hr'.form
              generalize (vs ++ [Value.slice A4 n c4]).length = len2 at e2
              subst e2
              have HQ2 := Lib.hid HP1
              clear HP1 hg' hr'
              refine hK.out _ _ trivial (fun _ => ?_)
              clear hK K
              try simp only [Act.put, List.setIfInBounds_toArray, List.set_cons_zero, List.set_cons_succ]
              refine wpAnyH_ready (rs := [5]) (by kernel_rfl) (by simp) ?_
              refine AllReadyH.cons (o := { dst := none, op := Op.store 22 (Operand.tmp 2) (Operand.tmp 39), type := 0, pos := "mate.go:104", after := #[{ on := 4, ground := Ground.data }, { on := 4, ground := Ground.chain }, { on := 0, ground := Ground.phase }, { on := 1, ground := Ground.phase }, { on := 2, ground := Ground.phase }, { on := 3, ground := Ground.phase }, { on := 4, ground := Ground.phase }], guard := none }) rfl (fun K hK => ?_) AllReadyH.nil
              go_simp
              refine hK.out _ _ trivial (fun _ => ?_)
              clear hK K
              try simp only [Act.put, List.setIfInBounds_toArray, List.set_cons_zero, List.set_cons_succ]
              refine wpAnyH_done (by kernel_rfl) ?_ _
              go_wp2
              go_roundw
              case rel => exact ⟨r + 1, by omega, by go_num, _, by rw [HN.out]; exact HQ2.out⟩
              case measure => simp [intOf]; omega
        · obtain rfl : r = n := by omega
          have HF : Hid (MI w0 r pB gr o v' (gridL r o) wr) := by
            have h := HMr.out
            rw [List.take_of_length_le (by rw [gridL_len]; omega)] at h
            exact h
          clear hm HMr
          go_wp2
          ((try simp only [Exit.inBlock, Exit.then]); refine bodyPost_ret (results_none rfl _ _ _) rfl ?_)
          exact ⟨rfl, v', by rw [HU.out]; exact HF.out, fun h => absurd (HU.out.symm.trans h) hne⟩
    · have HU : Hid (mtF n T 0 n o best = best) := by show updM n o best = best; unfold updM; rw [if_neg hb0, if_neg hlt]
      have hq2 : decide (cmpG (gridL n o) best < 0) = false := decide_eq_false hlt
      generalize cmpG (gridL n o) best = z at *
      have hen := enter66
      clear hM hC hG hnil ho hbn hlt
      go_enter Tryd.func64, Tryd.ntmps64
      go_wp2_with fail
      refine K65.out.mono ?_
      rintro e w1 ⟨rfl, rfl⟩
      go_wp2
      ((try simp only [Exit.inBlock, Exit.then]); refine bodyPost_ret (results_none rfl _ _ _) rfl ?_)
      exact ⟨rfl, _, by rw [HU.out]; exact HM.out, fun h => absurd (HU.out.symm.trans h) hb0⟩
end
end Go.Proofs.YtiodednhadnekaaDoor
