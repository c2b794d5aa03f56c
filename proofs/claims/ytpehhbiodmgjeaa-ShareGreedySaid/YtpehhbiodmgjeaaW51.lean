/- The law ShareGreedy. -/
import Derived.Test.YtpehhbiodmgjeaaW50
import Derived.Test.YtpehhbiodmgjeaaW43
import Derived.Test.YtpehhbiodmgjeaaW15
import Derived.Deep.RegionHeld
namespace Go.Proofs.Ytpehhbiodmgjeaa
open Go.RowKit
theorem c14_two (A B : Option Addr) (n c m d : Nat) (w : World) (hn : n ≤ 9223372036854775807) (hm : m ≤ 9223372036854775807) :
    Calls Try.prog 14 #[.slice (some ⟨w.heap.size, 0, none⟩) 2 2] (w.alloc (.cells #[.slice A n c, .slice B m d] 22)) fun e w' => e = .returned (.bool (decide (n ≤ 100) && decide (m ≤ 100))) ∧ w.alloc (.cells #[.slice A n c, .slice B m d] 22) = w' := by
  refine (f14_any _ 2 2 _ _ (lens_lit w [(A, n, c), (B, m, d)] (by simp) (by simpa using ⟨hn, hm⟩)) rfl).mono ?_
  rintro e w' ⟨rfl, rfl⟩
  exact ⟨by simp [fewB], rfl⟩
/-- The corners that are left, from the i-th on; those before are written over. -/
structure XI (B : Nat) (w4 : World) (g : Nat) (V : List Value) (T : List (List Int)) (i : Nat) (wr : World) : Prop where
  below : Below B w4 wr
  cells : ∀ j, j < T.length → wr.cell? ⟨g, j, none⟩ = some (V.getD j (.int .i64 0)) ∧ blkV (V.getD j (.int .i64 0)) ≠ g
  rows : ∀ j, i ≤ j → j < T.length → OwnRow wr B (V.getD j (.int .i64 0)) (T.getD j [])
theorem XI.drewN {B : Nat} {w4 : World} {g : Nat} {V : List Value} {T : List (List Int)} {i : Nat} {wr : World} (h : XI B w4 g V T i wr) (q : Nat) : XI B w4 g V T i (wr.drewN q) :=
  ⟨below_drewN h.below q, h.cells, fun j h1 h2 => by
    obtain ⟨b, p1, p2, p3, p4⟩ := h.rows j h1 h2
    exact ⟨b, p1, p2, p3, p4⟩⟩
theorem XI.put {B : Nat} {w4 : World} {g : Nat} {V : List Value} {T : List (List Int)} {i : Nat} {wr : World} (h : XI B w4 g V T i wr) (hl : V.length = T.length) (hn : (V.map blkV).Nodup) (hi : i < T.length) (o : Nat) (u : Value) {b : Nat} (hb : blkV (V.getD i (.int .i64 0)) = b) (hB : B ≤ b) : XI B w4 g V T (i + 1) (wr.setCell ⟨b, o, none⟩ u) :=
  ⟨h.below.setCell hB u, fun j hj => by
    have hne := (h.cells i hi).2
    rw [hb] at hne
    refine ⟨?_, (h.cells j hj).2⟩
    rw [World.cell?_of_block (a := ⟨g, j, none⟩) (Below.heap_setCell wr ⟨b, o, none⟩ u g (fun e => hne e.symm))]
    exact (h.cells j hj).1, fun j h1 h2 => by
    obtain ⟨c, p1, p2, p3, p4⟩ := h.rows j (by omega) h2
    have hcb : blkV (V.getD j (.int .i64 0)) = c := by rw [p2]; rfl
    have hne : c ≠ b := fun e => by
      have hi' : i < (V.map blkV).length := by rw [List.length_map]; omega
      have hj' : j < (V.map blkV).length := by rw [List.length_map]; omega
      have e1 : (V.map blkV)[i] = (V.map blkV)[j] := by
        rw [List.getElem_map, List.getElem_map]
        have g1 : V.getD i (.int .i64 0) = V[i]'(by omega) := by simp [List.getD_eq_getElem?_getD, show i < V.length by omega]
        have g2 : V.getD j (.int .i64 0) = V[j]'(by omega) := by simp [List.getD_eq_getElem?_getD, show j < V.length by omega]
        rw [← g1, ← g2, hb, hcb, e]
      have h3 := (List.pairwise_iff_getElem.1 hn) i j hi' hj' (by omega)
      exact h3 e1
    exact ⟨c, p1, p2, p3.far (p := ⟨b, o, none⟩) hne u, p4⟩⟩
theorem corners_row {n : Int} {xs : List Int} {i : Nat} (h : i < (cornersL n xs).length) : 0 < ((cornersL n xs).getD i []).length := by
  have hm : (cornersL n xs).getD i [] ∈ cornersL n xs := by rw [List.getD_eq_getElem?_getD, List.getElem?_eq_getElem h]; exact List.getElem_mem h
  generalize (cornersL n xs).getD i [] = y at *
  unfold cornersL at hm
  by_cases ha : asked n xs = 0
  · rw [if_pos ha] at hm
    obtain ⟨hok, _⟩ := asked_zero ha
    obtain ⟨m, rfl, h1, _⟩ := costOk_facts hok
    have := gsL_row (putAll_mem.1 hm)
    rw [Int.toNat_natCast] at this
    omega
  · rw [if_neg ha] at hm; cases hm
set_option maxRecDepth 100000 in
set_option maxHeartbeats 8000000 in
/-- dibberlaw08.ShareGreedy -/
theorem f12_any (n : Int) (A B : Option Addr) (len c m d : Nat) (xs ys : List Int) (w : World) (hs : Came w A len xs) (ho : Came w B m ys) :
    Calls Try.prog 12 #[.int .i64 n, .slice A len c, .slice B m d] w fun e w' => e = .returned (.bool true) ∧ Below w.heap.size w w' := by
  have k14 := Lib.hid (c14_two A B len c m d w hs.len ho.len)
  have b0 := Lib.hid (below_alloc w (.cells #[.slice A len c, .slice B m d] 22))
  by_cases hl : len ≤ 100 ∧ m ≤ 100
  · have I0 := Lib.hid ((hs.2 hl.1).below b0.out)
    have J0 := Lib.hid ((ho.2 hl.2).below b0.out)
    rw [decide_eq_true hl.1, decide_eq_true hl.2] at k14
    clear hs ho hl
    go_enter Try.func12, Try.ntmps12
    go_wp2_with fail
    refine k14.out.mono ?_
    rintro e w' ⟨rfl, rfl⟩
    go_wp2_with fail
    refine (f38_any A B n len c m d xs ys _ I0.out J0.out).mono ?_
    rintro e w1 ⟨A1, k1, c1, rfl, hi1, hb⟩
    have B1 := Lib.hid (below_step b0.out hb)
    have I1 := Lib.hid (I0.out.below hb)
    have J1 := Lib.hid (J0.out.below hb)
    have G1 := Lib.hid hi1
    clear hb hi1
    go_wp2_with fail
    refine (f39_any A B n len c m d xs ys _ I1.out J1.out).mono ?_
    rintro e w2 ⟨A2, k2, c2, rfl, hi2, hb⟩
    have B2 := Lib.hid (below_step B1.out hb)
    have I2 := Lib.hid (I1.out.below hb)
    have G2 := Lib.hid (G1.out.below hb)
    have H2 := Lib.hid hi2
    clear hb hi2
    go_wp2_with fail
    refine (f20_any _ _ _ _ _ _ _ _ _ G2.out H2.out).mono ?_
    rintro e w3 ⟨rfl, hd3⟩
    have B3 := Lib.hid (below_step B2.out (below_draw hd3))
    have I3 := Lib.hid (I2.out.below (below_draw hd3))
    have ht : decide (greedyR n xs ys = greedyR n xs ys) = true := decide_eq_true rfl
    rw [ht]
    clear hd3
    generalize greedyErr n xs ys = GE at *
    have hge : (GE != GE) = false := by simp
    go_wp2_with fail
    refine (f40_any A n len c xs _ I3.out).mono ?_
    rintro e w4 ⟨A4, c4, rfl, hy, hb⟩
    have B4 := Lib.hid (below_step B3.out hb)
    have I4 := Lib.hid (I3.out.below hb)
    have Y4 := Lib.hid hy
    have K41 := Lib.hid fun W hW => f41_any A n len c xs W hW
    have HRW : Hid (∀ i, i < (cornersL n xs).length → 0 < ((cornersL n xs).getD i []).length) := Lib.hid fun i h => corners_row h
    generalize asked n xs = E at *
    have hee : (E != E) = false := by simp
    generalize cornersL n xs = T at *
    obtain ⟨M, hM⟩ : ∃ z, z = T.length := ⟨_, rfl⟩
    have HM := Lib.hid hM
    rw [← hM] at Y4 HRW ⊢
    have hM6 := Y4.out.small
    clear hb hy hM
    go_wp2
    go_loopw [12] (fun ti wr => ∃ t : Nat, t ≤ 2 ∧ ti = .int .i64 (t : Int) ∧ Hid (Below w4.heap.size w4 wr)) (fun ti _ => 2 - (intOf ti).toNat)
    case atStart => exact ⟨0, by omega, rfl, Lib.hid (Below.refl _ _)⟩
    case round => as_aux_lemma =>
      obtain ⟨t, ht2, rfl, HB⟩ := hrel
      obtain ⟨wt, rfl⟩ : ∃ z, z = wr := ⟨_, rfl⟩
      have I5 := Lib.hid (I4.out.below HB.out)
      have Y5 := Lib.hid (Y4.out.below HB.out)
      have B5 := Lib.hid (below_step B4.out HB.out)
      by_cases htt : t < 2
      · have t1 : (t : Int) < 2 := by omega
        go_wp2_with fail
        refine (K41.out _ I5.out).mono ?_
        rintro e w5 ⟨A5, c5, rfl, ⟨_, hno, V, hnr, hcr⟩, hb⟩
        rw [← HM.out] at hno hcr ⊢
        have HNR := Lib.hid hnr
        have Y6 := Lib.hid (Y5.out.below hb)
        have HCR := Lib.hid hcr
        have HB5 := Lib.hid hb
        have HNO := Lib.hid hno
        have hmm : ((M : Int) != (M : Int)) = false := by simp
        clear hb hnr hcr hno
        obtain ⟨g, hA5, hX0⟩ : ∃ g, (0 < M → A5 = some ⟨g, 0, none⟩) ∧ XI wt.heap.size wt g V T 0 w5 := by
          rcases Nat.eq_zero_or_pos M with hMz | hMz
          · exact ⟨0, fun h => by omega, HB5.out, fun j hj => by have := HM.out; omega, fun j _ hj => by have := HM.out; omega⟩
          · obtain ⟨g, h1, _, h2⟩ := HCR.out hMz
            exact ⟨g, fun _ => h1, HB5.out, fun j hj => h2 j (by rw [HM.out]; exact hj), fun j _ hj => HNR.out.2.2 j hj⟩
        have HX0 := Lib.hid hX0
        have HA5 := Lib.hid hA5
        clear hA5 hX0
        go_wp2
        go_loopw [15] (fun ii wi => ∃ i : Nat, i ≤ M ∧ ii = .int .i64 (i : Int) ∧ Hid (XI wt.heap.size wt g V T i wi)) (fun ii _ => M - (intOf ii).toNat)
        case atStart => exact ⟨0, by omega, rfl, HX0⟩
        case round => as_aux_lemma =>
          obtain ⟨i, hi, rfl, HX⟩ := hrel
          by_cases him : i < M
          · have i0 : (0 : Int) ≤ (i : Int) := by omega
            have im : (i : Int) < (M : Int) := by omega
            have him2 : i < T.length := by rw [← HM.out]; exact him
            obtain ⟨q1, q2⟩ := HX.out.cells i him2
            obtain rfl := HA5.out (by omega)
            obtain ⟨b, hBb, ev, hown, hsm⟩ := HX.out.rows i (Nat.le_refl _) him2
            obtain ⟨g2, o2, rfl, Bq, dq, r1, _, _, r2⟩ := (Y5.out.below HX.out.below).at_ him
            have K20 := Lib.hid fun q => f20_any (some ⟨b, 0, none⟩) Bq _ (T.getD i []).length _ dq _ _ (wr.drewN q) (hown.ints (by omega)) (r2.drewN q)
            rw [decide_eq_true rfl] at K20
            rw [ev] at q1
            have HPUT := Lib.hid fun (w9 : World) (q : Nat) (h : w9 = wr.drewN q) => (HX.out.drewN q)
            have hrl := HRW.out i him
            have hfz := hown.frozen 0
            have hc0 := hown.cell 0 hrl
            have HEV := Lib.hid ev
            clear ev hown r2
            generalize T.getD i [] = TI at *
            obtain ⟨LI, hLI⟩ : ∃ z, z = TI.length := ⟨_, rfl⟩
            rw [← hLI] at q1 r1 K20 hrl
            clear hLI
            go_wp2_with fail
            refine wp_region_held_drew (S := fun W => W.cell? ⟨g, i, none⟩ = some (.slice (some ⟨b, 0, none⟩) LI LI) ∧ W.cell? ⟨g2, o2 + i, none⟩ = some (.slice Bq LI dq)) (by kernel_rfl) (by exact ⟨q1, r1⟩) (fun hS => ?_)
            refine wpAnyH_take (i := 0) (oi := { dst := some 77, op := Op.move (Operand.tmp 13), type := 33, pos := "law.go:75", after := #[], guard := none }) (v := .slice (some ⟨g, 0, none⟩) M c5) rfl (by kernel_rfl) (by kernel_rfl) (by kernel_rfl) (fun _ _ _ h => h) (Or.inl ⟨by kernel_rfl, fun W hSW => by kernel_rfl⟩) hS ?_
            try simp only [Act.put, List.setIfInBounds_toArray, List.set_cons_zero, List.set_cons_succ]
            refine wpAnyH_take (i := 1) (oi := { dst := some 78, op := Op.move (Operand.tmp 15), type := 3, pos := "law.go:75", after := #[], guard := none }) (v := .int .i64 (i : Int)) rfl (by kernel_rfl) (by kernel_rfl) (by kernel_rfl) (fun _ _ _ h => h) (Or.inl ⟨by kernel_rfl, fun W hSW => by kernel_rfl⟩) hS ?_
            try simp only [Act.put, List.setIfInBounds_toArray, List.set_cons_zero, List.set_cons_succ]
            refine wpAnyH_take (i := 2) (oi := { dst := some 79, op := Op.indexAddr 33 (Operand.tmp 77) (Operand.tmp 78), type := 0, pos := "law.go:75", after := #[{ on := 0, ground := Ground.data }, { on := 1, ground := Ground.data }], guard := none }) (v := .pointer (some ⟨g, i, none⟩)) rfl (by kernel_rfl) (by kernel_rfl) (by kernel_rfl) (fun _ _ _ h => h) (Or.inl ⟨by kernel_rfl, fun W hSW => by go_simp⟩) hS ?_
            try simp only [Act.put, List.setIfInBounds_toArray, List.set_cons_zero, List.set_cons_succ]
            refine wpAnyH_take (i := 3) (oi := { dst := some 80, op := Op.load 22 (Operand.tmp 79), type := 22, pos := "law.go:75", after := #[{ on := 2, ground := Ground.data }], guard := none }) (v := .slice (some ⟨b, 0, none⟩) LI LI) rfl (by kernel_rfl) (by kernel_rfl) (by kernel_rfl) (fun _ _ _ h => h) (Or.inl ⟨by kernel_rfl, fun W hSW => by obtain ⟨h1, h2⟩ := hSW; go_simp⟩) hS ?_
            try simp only [Act.put, List.setIfInBounds_toArray, List.set_cons_zero, List.set_cons_succ]
            refine wpAnyH_take (i := 4) (oi := { dst := some 81, op := Op.move (Operand.tmp 11), type := 33, pos := "law.go:75", after := #[], guard := none }) (v := .slice (some ⟨g2, o2, none⟩) M c4) rfl (by kernel_rfl) (by kernel_rfl) (by kernel_rfl) (fun _ _ _ h => h) (Or.inl ⟨by kernel_rfl, fun W hSW => by kernel_rfl⟩) hS ?_
            try simp only [Act.put, List.setIfInBounds_toArray, List.set_cons_zero, List.set_cons_succ]
            refine wpAnyH_take (i := 5) (oi := { dst := some 82, op := Op.move (Operand.tmp 15), type := 3, pos := "law.go:75", after := #[], guard := none }) (v := .int .i64 (i : Int)) rfl (by kernel_rfl) (by kernel_rfl) (by kernel_rfl) (fun _ _ _ h => h) (Or.inl ⟨by kernel_rfl, fun W hSW => by kernel_rfl⟩) hS ?_
            try simp only [Act.put, List.setIfInBounds_toArray, List.set_cons_zero, List.set_cons_succ]
            refine wpAnyH_take (i := 6) (oi := { dst := some 83, op := Op.indexAddr 33 (Operand.tmp 81) (Operand.tmp 82), type := 0, pos := "law.go:75", after := #[{ on := 4, ground := Ground.data }, { on := 5, ground := Ground.data }], guard := none }) (v := .pointer (some ⟨g2, o2 + i, none⟩)) rfl (by kernel_rfl) (by kernel_rfl) (by kernel_rfl) (fun _ _ _ h => h) (Or.inl ⟨by kernel_rfl, fun W hSW => by go_simp⟩) hS ?_
            try simp only [Act.put, List.setIfInBounds_toArray, List.set_cons_zero, List.set_cons_succ]
            refine wpAnyH_take (i := 7) (oi := { dst := some 84, op := Op.load 22 (Operand.tmp 83), type := 22, pos := "law.go:75", after := #[{ on := 6, ground := Ground.data }], guard := none }) (v := .slice Bq LI dq) rfl (by kernel_rfl) (by kernel_rfl) (by kernel_rfl) (fun _ _ _ h => h) (Or.inl ⟨by kernel_rfl, fun W hSW => by obtain ⟨h1, h2⟩ := hSW; go_simp⟩) hS ?_
            try simp only [Act.put, List.setIfInBounds_toArray, List.set_cons_zero, List.set_cons_succ]
            refine wpAnyH_ready (rs := [8]) (by kernel_rfl) (by simp) ?_
            refine AllReadyH.cons (o := { dst := some 85, op := Op.call { callee := Callee.value (Operand.func 20), args := #[Operand.tmp 80, Operand.tmp 84], argTypes := #[22, 22] }, type := 4, pos := "law.go:75", after := #[{ on := 3, ground := Ground.data }, { on := 7, ground := Ground.data }], guard := none }) rfl (fun K hK => ?_) AllReadyH.nil
            go_simp
            refine Calls.mono (K20.out _) ?_
            rintro e w9 ⟨rfl, kk, rfl⟩
            refine hK.out _ _ (by exact ⟨q1, r1⟩) (fun hS => ?_)
            clear hK K
            try simp only [Act.put, List.setIfInBounds_toArray, List.set_cons_zero, List.set_cons_succ]
            refine wpAnyH_take (i := 9) (oi := { dst := some 86, op := Op.unOp UnOp.not 4 (Operand.tmp 85), type := 4, pos := "law.go:75", after := #[{ on := 8, ground := Ground.data }], guard := none }) (v := .bool false) rfl (by kernel_rfl) (by kernel_rfl) (by kernel_rfl) (fun _ _ _ h => h) (Or.inl ⟨by kernel_rfl, fun W hSW => by go_simp⟩) hS ?_
            try simp only [Act.put, List.setIfInBounds_toArray, List.set_cons_zero, List.set_cons_succ]
            refine wpAnyH_done (by kernel_rfl) ?_ _
            go_wp2
            go_roundw
            case rel => exact ⟨i + 1, by omega, by go_num, Lib.hid ((HX.out.drewN _).put HNR.out.1 HNR.out.2.1 him2 0 _ (by rw [HEV.out]; rfl) hBb)⟩
            case measure => simp [intOf]; omega
          · obtain rfl : i = M := by omega
            have HB6 : Hid (Below w4.heap.size w4 wr) := Lib.hid (HB.out.trans (HX.out.below.mono HB.out.size))
            go_wp2
            go_roundw
            case rel => exact ⟨t + 1, by omega, by go_num, HB6⟩
            case measure => simp [intOf]; omega
      · obtain rfl : t = 2 := by omega
        go_wp2_with fail
        refine (f15_any _).mono ?_
        rintro e w6 ⟨rfl, hb6⟩
        have B6 := Lib.hid (below_step B5.out hb6)
        clear hb6
        go_wp2_with fail
        go_ret
        exact ⟨rfl, B6.out⟩
  · have hf : (decide (len ≤ 100) && decide (m ≤ 100)) = false := by
      rw [Bool.eq_false_iff]
      simpa using hl
    rw [hf] at k14
    clear hs ho hl hf
    go_enter Try.func12, Try.ntmps12
    go_wp2_with fail
    refine k14.out.mono ?_
    rintro e w' ⟨rfl, rfl⟩
    go_wp2_with fail
    refine (f15_any _).mono ?_
    rintro e w6 ⟨rfl, hb6⟩
    have B6 := Lib.hid (below_step b0.out hb6)
    clear hb6
    go_wp2_with fail
    go_ret
    exact ⟨rfl, B6.out⟩
end Go.Proofs.Ytpehhbiodmgjeaa
