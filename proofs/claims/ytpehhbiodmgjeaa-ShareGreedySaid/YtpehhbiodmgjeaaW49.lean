/- Walks: slices.CompactFunc at rows. -/
import Derived.Test.YtpehhbiodmgjeaaW48
import Derived.Deep.RegionHeld
namespace Go.Proofs.Ytpehhbiodmgjeaa
open Go.RowKit
set_option maxRecDepth 100000 in
set_option maxHeartbeats 8000000 in
/-- slices.CompactFunc -/
theorem f79_rows (g m cap : Nat) (vs : List Value) (L : List (List Int)) (w : World) (R : Value → List Int → Prop) (hRL : ∀ v l, R v l → LieW w g v l) (hm : 0 < m) (hvl : vs.length = m) (hL : L.length = m) (h1M : m ≤ 1000000) (hcap : m ≤ cap) (hc : CellsV w g vs) (hr0 : ∀ j, j < m → R (vs.getD j (.int .i64 0)) (L.getD j [])) :
    Calls Try.prog 79 #[.slice (some ⟨g, 0, none⟩) m cap, .func (.func 80) #[] #[]] w fun e w' => e = .returned (.slice (some ⟨g, 0, none⟩) (compF L).length cap) ∧ w.grownBy w' (some g) ∧ ∃ V : List Value, V.length = (compF L).length ∧ V.Sublist vs ∧ (∀ i, i < V.length → w'.cell? ⟨g, i, none⟩ = some (V.getD i (.int .i64 0))) ∧ ∀ i, i < V.length → R (V.getD i (.int .i64 0)) ((compF L).getD i []) := by
  have hr : ∀ j, j < m → LieW w g (vs.getD j (.int .i64 0)) (L.getD j []) := fun j hj => hRL _ _ (hr0 j hj)
  have HR0 := Lib.hid hr0
  have HSU : Hid (∀ V : List Value, ∀ k, V.Sublist (vs.take k) → V.Sublist vs) := Lib.hid fun V k h => h.trans (List.take_sublist _ _)
  have HVE : Hid (∀ i, i < m → vs[i]? = some (vs.getD i (.int .i64 0))) := Lib.hid fun i hi => by rw [List.getElem?_eq_getElem (by omega)]; simp [List.getD_eq_getElem?_getD, show i < vs.length by omega]
  have HR := Lib.hid hr
  have HL := Lib.hid hL
  have HVL := Lib.hid hvl
  have HTL : Hid (L.take m = L) := Lib.hid (List.take_of_length_le (by omega))
  have HFI : Hid (compF (L.take 1) = L.take 1) := Lib.hid (compTo_first (by omega))
  have HSA : Hid (∀ q, q + 1 < m → L.getD (q + 1) [] = L.getD q [] → compF (L.take (q + 2)) = compF (L.take (q + 1))) := Lib.hid fun q h e => compTo_same (by omega) e
  have HMO : Hid (∀ q, q + 1 < m → ¬ L.getD (q + 1) [] = L.getD q [] → compF (L.take (q + 2)) = compF (L.take (q + 1)) ++ [L.getD (q + 1) []]) := Lib.hid fun q h e => compTo_more (by omega) e
  have HT1 : Hid (∀ q, q < m → L.take (q + 1) = L.take q ++ [L.getD q []]) := Lib.hid fun q h => take_one (by omega)
  have HC0 : Hid (∀ i, i < m → w.cell? ⟨g, i, none⟩ = some (vs.getD i (.int .i64 0)) ∧ w.frozen? ⟨g, i, none⟩ = false) := Lib.hid fun i h => hc i (by omega)
  -- the row as it comes, as far as it has no neighbours alike
  have HST : Hid (∀ q z, q + 1 ≤ m → CmI R w g m vs (q + 1) (vs.take (q + 1)) (L.take (q + 1)) (w.drewN z)) := Lib.hid fun q z hq =>
    have hg : ∀ i, i < (vs.take (q + 1)).length → i < m ∧ (vs.take (q + 1)).getD i (.int .i64 0) = vs.getD i (.int .i64 0) ∧ (L.take (q + 1)).getD i [] = L.getD i [] := fun i hi => by
      rw [List.length_take] at hi
      refine ⟨by omega, ?_, ?_⟩
      · simp [List.getD_eq_getElem?_getD, show i < q + 1 by omega]
      · simp [List.getD_eq_getElem?_getD, show i < q + 1 by omega]
    ⟨GrG.drewN g w z, by rw [List.length_take, List.length_take, hvl, hL], fun i hi => by
      obtain ⟨h1, h2, _⟩ := hg i hi
      rw [h2]
      exact (hc i (by omega)).1, fun i hi => by
      obtain ⟨h1, h2, h3⟩ := hg i hi
      rw [h2, h3]
      exact hr0 i h1, by
      have e : vs.take (q + 1) = (vs.take (q + 1 + 1)).take (q + 1) := by rw [List.take_take, Nat.min_eq_left (by omega)]
      rw [e]
      exact List.take_sublist _ _, fun i _ hi => (hc i (by omega)).1, fun i hi => by
      have h : (w.drewN z).cell? ⟨g, i, none⟩ = _ := (hc i (by omega)).1
      rw [h]; rfl, fun i hi => (hc i (by omega)).2⟩
  have HW : Hid (∀ i, i < m → (∃ A c, vs.getD i (.int .i64 0) = .slice A (L.getD i []).length c)) := Lib.hid fun i hi => by
    obtain ⟨A, c, e, _⟩ := hr i hi
    exact ⟨A, c, e⟩
  have K80 : Hid (∀ (W : World) (a b : Nat) (A B : Option Addr) (c d : Nat), w.grownBy W (some g) → a < m → b < m → vs.getD a (.int .i64 0) = .slice A (L.getD a []).length c → vs.getD b (.int .i64 0) = .slice B (L.getD b []).length d →
      Calls Try.prog 80 #[.slice A (L.getD a []).length c, .slice B (L.getD b []).length d] W fun e w' => e = .returned (.bool (decide (L.getD a [] = L.getD b []))) ∧ ∃ k, w' = W.drewN k) := Lib.hid fun W a b A B c d hW ha hb ea eb => by
    obtain ⟨A', c', e1, _, _, hi1, _⟩ := (hr a ha).same hW
    rw [ea] at e1
    injection e1 with e1 _ e2
    subst e1 e2
    obtain ⟨B', d', e1, _, _, hi2, _⟩ := (hr b hb).same hW
    rw [eb] at e1
    injection e1 with e1 _ e2
    subst e1 e2
    exact f80_any _ _ _ _ _ _ _ _ W hi1 hi2
  have hen := enter80
  have hmc : (m : Int) ≤ (cap : Int) := by omega
  clear hr hr0 hRL hL hvl hc
  by_cases hm2 : m < 2
  · obtain rfl : m = 1 := by omega
    have HE : Hid (compF L = L) := Lib.hid (by have h1 := HFI.out; rw [HTL.out] at h1; exact h1)
    go_enter Try.func79, Try.ntmps79
    go_wp2
    go_ret
    have hS := HST.out 0 0 (by omega)
    refine ⟨by rw [HE.out, HL.out]; rfl, World.grownBy.refl w _, vs, ?_⟩
    have h1 : vs.take 1 = vs := List.take_of_length_le (by rw [HVL.out]; omega)
    rw [show (0 : Nat) + 1 = 1 from rfl, HTL.out, h1] at hS
    rw [HE.out]
    exact ⟨hS.len, List.Sublist.refl _, hS.done, hS.rows⟩
  have hm3 : ¬ (m : Int) < 2 := by omega
  go_enter Try.func79, Try.ntmps79
  go_wp2
  go_loopw [5] (fun ki wr => ∃ q z : Nat, q + 1 ≤ m ∧ ki = .int .i64 ((q + 1 : Nat) : Int) ∧ Hid (compF (L.take (q + 1)) = L.take (q + 1)) ∧ wr = w.drewN z) (fun ki _ => m - (intOf ki).toNat)
  case atStart => exact ⟨0, 0, by omega, rfl, HFI, rfl⟩
  case round => as_aux_lemma =>
    obtain ⟨q, z, hq, rfl, hK, rfl⟩ := hrel
    have e1 : ((q + 1 : Nat) : Int) = (q : Int) + 1 := by omega
    rw [e1]
    have hw0 : IntKind.i64.wrap ((q : Int) + 1) = (q : Int) + 1 := IntWalk.i64_in _ (by omega)
    have hwq : IntKind.i64.wrap (q : Int) = (q : Int) := IntWalk.i64_in _ (by omega)
    have hq0 : ¬ (q : Int) + 1 < 0 := by omega
    have hq2 : (0 : Int) ≤ (q : Int) := by omega
    have hq3 : (q : Int) < (m : Int) := by omega
    have hq4 : (0 : Int) ≤ (q : Int) + 1 := by omega
    by_cases hqm : q + 1 < m
    · have hq1 : (q : Int) + 1 < (m : Int) := by omega
      obtain ⟨A1, c1, v1⟩ := HW.out (q + 1) hqm
      obtain ⟨A0, c0, v0⟩ := HW.out q (by omega)
      have KC := Lib.hid fun W hW => K80.out W (q + 1) q A1 A0 c1 c0 hW hqm (by omega) v1 v0
      have t1 := (HC0.out (q + 1) hqm).1
      have t0 := (HC0.out q (by omega)).1
      rw [v1] at t1
      rw [v0] at t0
      have HSA1 := Lib.hid (HSA.out q hqm)
      have HMO1 := Lib.hid (HMO.out q hqm)
      have HV1 := Lib.hid v1
      have HT2 := Lib.hid (HT1.out (q + 1) hqm)
      clear v1 v0 e1
      obtain ⟨n1, hn1⟩ : ∃ z, z = (L.getD (q + 1) []).length := ⟨_, rfl⟩
      obtain ⟨n0, hn0⟩ : ∃ z, z = (L.getD q []).length := ⟨_, rfl⟩
      rw [← hn1] at t1 KC
      rw [← hn0] at t0 KC
      clear hn1 hn0
      have T1 : Hid (∀ k, (w.drewN k).cell? ⟨g, q + 1, none⟩ = some (.slice A1 n1 c1) ∧ (w.drewN k).cell? ⟨g, q, none⟩ = some (.slice A0 n0 c0)) := Lib.hid fun k => ⟨t1, t0⟩
      clear t1 t0
      by_cases he : L.getD (q + 1) [] = L.getD q []
      · have HE : Hid (compF (L.take (q + 2)) = L.take (q + 1)) := Lib.hid ((HSA1.out he).trans hK.out)
        rw [decide_eq_true he] at KC
        clear he
        go_wp2_with fail
        refine wp_region_held_drew (S := fun W => W.cell? ⟨g, q + 1, none⟩ = some (.slice A1 n1 c1) ∧ W.cell? ⟨g, q, none⟩ = some (.slice A0 n0 c0)) (by kernel_rfl) (T1.out 0) (fun hS => ?_)
        refine wpAnyH_take (i := 0) (oi := { dst := some 18, op := Op.move (Operand.tmp 1), type := 30, pos := "slices.go:401", after := #[], guard := none }) (v := (.func (.func 80) #[] #[])) rfl (by kernel_rfl) (by kernel_rfl) (by kernel_rfl) (fun _ _ _ h => h) (Or.inl ⟨by kernel_rfl, fun W hSW => by kernel_rfl⟩) hS ?_
        try simp only [Act.put, List.setIfInBounds_toArray, List.set_cons_zero, List.set_cons_succ]
        refine wpAnyH_take (i := 1) (oi := { dst := some 19, op := Op.move (Operand.tmp 0), type := 33, pos := "slices.go:401", after := #[], guard := none }) (v := .slice (some ⟨g, 0, none⟩) m cap) rfl (by kernel_rfl) (by kernel_rfl) (by kernel_rfl) (fun _ _ _ h => h) (Or.inl ⟨by kernel_rfl, fun W hSW => by kernel_rfl⟩) hS ?_
        try simp only [Act.put, List.setIfInBounds_toArray, List.set_cons_zero, List.set_cons_succ]
        refine wpAnyH_take (i := 2) (oi := { dst := some 20, op := Op.move (Operand.tmp 5), type := 3, pos := "slices.go:401", after := #[], guard := none }) (v := .int .i64 ((q : Int) + 1)) rfl (by kernel_rfl) (by kernel_rfl) (by kernel_rfl) (fun _ _ _ h => h) (Or.inl ⟨by kernel_rfl, fun W hSW => by kernel_rfl⟩) hS ?_
        try simp only [Act.put, List.setIfInBounds_toArray, List.set_cons_zero, List.set_cons_succ]
        refine wpAnyH_take (i := 3) (oi := { dst := some 21, op := Op.indexAddr 33 (Operand.tmp 19) (Operand.tmp 20), type := 0, pos := "slices.go:401", after := #[{ on := 1, ground := Ground.data }, { on := 2, ground := Ground.data }], guard := none }) (v := .pointer (some ⟨g, q + 1, none⟩)) rfl (by kernel_rfl) (by kernel_rfl) (by kernel_rfl) (fun _ _ _ h => h) (Or.inl ⟨by kernel_rfl, fun W hSW => by go_simp⟩) hS ?_
        try simp only [Act.put, List.setIfInBounds_toArray, List.set_cons_zero, List.set_cons_succ]
        refine wpAnyH_take (i := 4) (oi := { dst := some 22, op := Op.load 22 (Operand.tmp 21), type := 22, pos := "slices.go:401", after := #[{ on := 3, ground := Ground.data }], guard := none }) (v := .slice A1 n1 c1) rfl (by kernel_rfl) (by kernel_rfl) (by kernel_rfl) (fun _ _ _ h => h) (Or.inl ⟨by kernel_rfl, fun W hSW => by obtain ⟨h1, h2⟩ := hSW; go_simp⟩) hS ?_
        try simp only [Act.put, List.setIfInBounds_toArray, List.set_cons_zero, List.set_cons_succ]
        refine wpAnyH_take (i := 5) (oi := { dst := some 23, op := Op.move (Operand.tmp 0), type := 33, pos := "slices.go:401", after := #[], guard := none }) (v := .slice (some ⟨g, 0, none⟩) m cap) rfl (by kernel_rfl) (by kernel_rfl) (by kernel_rfl) (fun _ _ _ h => h) (Or.inl ⟨by kernel_rfl, fun W hSW => by kernel_rfl⟩) hS ?_
        try simp only [Act.put, List.setIfInBounds_toArray, List.set_cons_zero, List.set_cons_succ]
        refine wpAnyH_take (i := 6) (oi := { dst := some 24, op := Op.move (Operand.tmp 5), type := 3, pos := "slices.go:401", after := #[], guard := none }) (v := .int .i64 ((q : Int) + 1)) rfl (by kernel_rfl) (by kernel_rfl) (by kernel_rfl) (fun _ _ _ h => h) (Or.inl ⟨by kernel_rfl, fun W hSW => by kernel_rfl⟩) hS ?_
        try simp only [Act.put, List.setIfInBounds_toArray, List.set_cons_zero, List.set_cons_succ]
        refine wpAnyH_take (i := 7) (oi := { dst := some 25, op := Op.binOp BinOp.sub 3 (Operand.tmp 24) (Operand.const (Value.int IntKind.i64 1)) 3, type := 3, pos := "slices.go:401", after := #[{ on := 6, ground := Ground.data }], guard := none }) (v := .int .i64 (q : Int)) rfl (by kernel_rfl) (by kernel_rfl) (by kernel_rfl) (fun _ _ _ h => h) (Or.inl ⟨by kernel_rfl, fun W hSW => by go_simp⟩) hS ?_
        try simp only [Act.put, List.setIfInBounds_toArray, List.set_cons_zero, List.set_cons_succ]
        refine wpAnyH_take (i := 8) (oi := { dst := some 26, op := Op.indexAddr 33 (Operand.tmp 23) (Operand.tmp 25), type := 0, pos := "slices.go:401", after := #[{ on := 5, ground := Ground.data }, { on := 7, ground := Ground.data }], guard := none }) (v := .pointer (some ⟨g, q, none⟩)) rfl (by kernel_rfl) (by kernel_rfl) (by kernel_rfl) (fun _ _ _ h => h) (Or.inl ⟨by kernel_rfl, fun W hSW => by go_simp⟩) hS ?_
        try simp only [Act.put, List.setIfInBounds_toArray, List.set_cons_zero, List.set_cons_succ]
        refine wpAnyH_take (i := 9) (oi := { dst := some 27, op := Op.load 22 (Operand.tmp 26), type := 22, pos := "slices.go:401", after := #[{ on := 8, ground := Ground.data }], guard := none }) (v := .slice A0 n0 c0) rfl (by kernel_rfl) (by kernel_rfl) (by kernel_rfl) (fun _ _ _ h => h) (Or.inl ⟨by kernel_rfl, fun W hSW => by obtain ⟨h1, h2⟩ := hSW; go_simp⟩) hS ?_
        try simp only [Act.put, List.setIfInBounds_toArray, List.set_cons_zero, List.set_cons_succ]
        refine wpAnyH_ready (rs := [10]) (by kernel_rfl) (by simp) ?_
        refine AllReadyH.cons (o := { dst := some 28, op := Op.call { callee := Callee.value (Operand.tmp 18), args := #[Operand.tmp 22, Operand.tmp 27], argTypes := #[22, 22] }, type := 4, pos := "slices.go:401", after := #[{ on := 0, ground := Ground.data }, { on := 4, ground := Ground.data }, { on := 9, ground := Ground.data }], guard := none }) rfl (fun K hK => ?_) AllReadyH.nil
        go_simp
        refine (KC.out _ (by exact GrG.drewN g w _)).mono ?_
        rintro e w3 ⟨rfl, kk, rfl⟩
        refine hK.out _ _ (T1.out 0) (fun hS => ?_)
        clear hK K
        try simp only [Act.put, List.setIfInBounds_toArray, List.set_cons_zero, List.set_cons_succ]
        refine wpAnyH_done (by kernel_rfl) ?_ _
        obtain ⟨z3, hz3⟩ : ∃ z3, z3 = z := ⟨_, rfl⟩
        clear hz3
        go_wp2
        obtain ⟨M2, hM2⟩ : ∃ M2, M2 = m - (q + 1) := ⟨_, rfl⟩
        obtain ⟨C2, hC2⟩ : ∃ C2, C2 = cap - (q + 1) := ⟨_, rfl⟩
        rw [← hM2, ← hC2]
        have hMM : q + 1 + M2 = m := by omega
        have HMM := Lib.hid hMM
        clear hM2 hC2 KC
        go_loopw [7, 5] (fun ji ki wr => ∃ (t : Nat) (V : List Value), t + 1 ≤ M2 ∧ ji = .int .i64 ((t + 1 : Nat) : Int) ∧ ki = .int .i64 (V.length : Int) ∧ V.length ≤ q + 1 + t ∧ Hid (CmI R w g m vs (q + 1 + t) V (compF (L.take (q + 1 + (t + 1)))) wr)) (fun ji _ _ => M2 - (intOf ji).toNat)
        case atStart =>
          have h1 : (vs.take (q + 1)).length = q + 1 := by rw [List.length_take, HVL.out]; omega
          exact ⟨0, vs.take (q + 1), by omega, rfl, by rw [h1]; rfl, by omega, Lib.hid (by rw [show q + 1 + (0 + 1) = q + 2 by omega, HE.out]; exact HST.out q _ hq)⟩
        case round => as_aux_lemma =>
          obtain ⟨t, V, htM, rfl, rfl, hV, hI⟩ := hrel
          have e1 : ((t + 1 : Nat) : Int) = (t : Int) + 1 := by omega
          rw [e1]
          have hI := Lib.hid hI.out
          by_cases hlt : t + 1 < M2
          · obtain ⟨A1, c1, v1⟩ := HW.out (q + 1 + (t + 1)) (by omega)
            obtain ⟨A0, c0, v0⟩ := HW.out (q + 1 + t) (by omega)
            have K2 := Lib.hid fun W hW => K80.out W (q + 1 + (t + 1)) (q + 1 + t) A1 A0 c1 c0 (GrG.trans hI.out.grown hW) (by omega) (by omega) v1 v0
            have t1 := hI.out.rest (q + 1 + (t + 1)) (by omega) (by omega)
            have t0 := hI.out.rest (q + 1 + t) (by omega) (by omega)
            rw [v1] at t1
            rw [v0] at t0
            have HSA1 := Lib.hid (HSA.out (q + 1 + t) (by omega))
            have HMO1 := Lib.hid (HMO.out (q + 1 + t) (by omega))
            have HV1 := Lib.hid v1
            clear v1 v0 e1
            obtain ⟨n1, hn1⟩ : ∃ z, z = (L.getD (q + 1 + (t + 1)) []).length := ⟨_, rfl⟩
            obtain ⟨n0, hn0⟩ : ∃ z, z = (L.getD (q + 1 + t) []).length := ⟨_, rfl⟩
            rw [← hn1] at t1 K2
            rw [← hn0] at t0 K2
            have HN1 := Lib.hid hn1
            clear hn1 hn0
            have T2 : Hid (∀ k, (wr.drewN k).cell? ⟨g, q + 1 + (t + 1), none⟩ = some (.slice A1 n1 c1) ∧ (wr.drewN k).cell? ⟨g, q + 1 + t, none⟩ = some (.slice A0 n0 c0)) := Lib.hid fun k => ⟨t1, t0⟩
            clear t1 t0
            have hwt : IntKind.i64.wrap (t : Int) = (t : Int) := IntWalk.i64_in _ (by omega)
            have ht0 : ¬ (t : Int) + 1 < 0 := by omega
            have ht2 : (0 : Int) ≤ (t : Int) := by omega
            have ht3 : (t : Int) < (M2 : Int) := by omega
            have ht4 : (0 : Int) ≤ (t : Int) + 1 := by omega
            have ht5 : (t : Int) + 1 < (M2 : Int) := by omega
            by_cases he : L.getD (q + 1 + (t + 1)) [] = L.getD (q + 1 + t) []
            · have HE2 : Hid (compF (L.take (q + 1 + (t + 1 + 1))) = compF (L.take (q + 1 + (t + 1)))) := Lib.hid (HSA1.out he)
              rw [decide_eq_true he] at K2
              clear he
              go_wp2_with fail
              refine wp_region_held_drew (S := fun W => W.cell? ⟨g, q + 1 + (t + 1), none⟩ = some (.slice A1 n1 c1) ∧ W.cell? ⟨g, q + 1 + t, none⟩ = some (.slice A0 n0 c0)) (by kernel_rfl) (T2.out 0) (fun hS => ?_)
              refine wpAnyH_take (i := 0) (oi := { dst := some 38, op := Op.move (Operand.tmp 1), type := 30, pos := "slices.go:404", after := #[], guard := none }) (v := (.func (.func 80) #[] #[])) rfl (by kernel_rfl) (by kernel_rfl) (by kernel_rfl) (fun _ _ _ h => h) (Or.inl ⟨by kernel_rfl, fun W hSW => by kernel_rfl⟩) hS ?_
              try simp only [Act.put, List.setIfInBounds_toArray, List.set_cons_zero, List.set_cons_succ]
              refine wpAnyH_take (i := 1) (oi := { dst := some 39, op := Op.move (Operand.tmp 6), type := 33, pos := "slices.go:404", after := #[], guard := none }) (v := .slice (some ⟨g, q + 1, none⟩) M2 C2) rfl (by kernel_rfl) (by kernel_rfl) (by kernel_rfl) (fun _ _ _ h => h) (Or.inl ⟨by kernel_rfl, fun W hSW => by kernel_rfl⟩) hS ?_
              try simp only [Act.put, List.setIfInBounds_toArray, List.set_cons_zero, List.set_cons_succ]
              refine wpAnyH_take (i := 2) (oi := { dst := some 40, op := Op.move (Operand.tmp 7), type := 3, pos := "slices.go:404", after := #[], guard := none }) (v := .int .i64 ((t : Int) + 1)) rfl (by kernel_rfl) (by kernel_rfl) (by kernel_rfl) (fun _ _ _ h => h) (Or.inl ⟨by kernel_rfl, fun W hSW => by kernel_rfl⟩) hS ?_
              try simp only [Act.put, List.setIfInBounds_toArray, List.set_cons_zero, List.set_cons_succ]
              refine wpAnyH_take (i := 3) (oi := { dst := some 41, op := Op.indexAddr 33 (Operand.tmp 39) (Operand.tmp 40), type := 0, pos := "slices.go:404", after := #[{ on := 1, ground := Ground.data }, { on := 2, ground := Ground.data }], guard := none }) (v := .pointer (some ⟨g, q + 1 + (t + 1), none⟩)) rfl (by kernel_rfl) (by kernel_rfl) (by kernel_rfl) (fun _ _ _ h => h) (Or.inl ⟨by kernel_rfl, fun W hSW => by go_simp⟩) hS ?_
              try simp only [Act.put, List.setIfInBounds_toArray, List.set_cons_zero, List.set_cons_succ]
              refine wpAnyH_take (i := 4) (oi := { dst := some 42, op := Op.load 22 (Operand.tmp 41), type := 22, pos := "slices.go:404", after := #[{ on := 3, ground := Ground.data }], guard := none }) (v := .slice A1 n1 c1) rfl (by kernel_rfl) (by kernel_rfl) (by kernel_rfl) (fun _ _ _ h => h) (Or.inl ⟨by kernel_rfl, fun W hSW => by obtain ⟨h1, h2⟩ := hSW; go_simp⟩) hS ?_
              try simp only [Act.put, List.setIfInBounds_toArray, List.set_cons_zero, List.set_cons_succ]
              refine wpAnyH_take (i := 5) (oi := { dst := some 43, op := Op.move (Operand.tmp 6), type := 33, pos := "slices.go:404", after := #[], guard := none }) (v := .slice (some ⟨g, q + 1, none⟩) M2 C2) rfl (by kernel_rfl) (by kernel_rfl) (by kernel_rfl) (fun _ _ _ h => h) (Or.inl ⟨by kernel_rfl, fun W hSW => by kernel_rfl⟩) hS ?_
              try simp only [Act.put, List.setIfInBounds_toArray, List.set_cons_zero, List.set_cons_succ]
              refine wpAnyH_take (i := 6) (oi := { dst := some 44, op := Op.move (Operand.tmp 7), type := 3, pos := "slices.go:404", after := #[], guard := none }) (v := .int .i64 ((t : Int) + 1)) rfl (by kernel_rfl) (by kernel_rfl) (by kernel_rfl) (fun _ _ _ h => h) (Or.inl ⟨by kernel_rfl, fun W hSW => by kernel_rfl⟩) hS ?_
              try simp only [Act.put, List.setIfInBounds_toArray, List.set_cons_zero, List.set_cons_succ]
              refine wpAnyH_take (i := 7) (oi := { dst := some 45, op := Op.binOp BinOp.sub 3 (Operand.tmp 44) (Operand.const (Value.int IntKind.i64 1)) 3, type := 3, pos := "slices.go:404", after := #[{ on := 6, ground := Ground.data }], guard := none }) (v := .int .i64 (t : Int)) rfl (by kernel_rfl) (by kernel_rfl) (by kernel_rfl) (fun _ _ _ h => h) (Or.inl ⟨by kernel_rfl, fun W hSW => by go_simp⟩) hS ?_
              try simp only [Act.put, List.setIfInBounds_toArray, List.set_cons_zero, List.set_cons_succ]
              refine wpAnyH_take (i := 8) (oi := { dst := some 46, op := Op.indexAddr 33 (Operand.tmp 43) (Operand.tmp 45), type := 0, pos := "slices.go:404", after := #[{ on := 5, ground := Ground.data }, { on := 7, ground := Ground.data }], guard := none }) (v := .pointer (some ⟨g, q + 1 + t, none⟩)) rfl (by kernel_rfl) (by kernel_rfl) (by kernel_rfl) (fun _ _ _ h => h) (Or.inl ⟨by kernel_rfl, fun W hSW => by go_simp⟩) hS ?_
              try simp only [Act.put, List.setIfInBounds_toArray, List.set_cons_zero, List.set_cons_succ]
              refine wpAnyH_take (i := 9) (oi := { dst := some 47, op := Op.load 22 (Operand.tmp 46), type := 22, pos := "slices.go:404", after := #[{ on := 8, ground := Ground.data }], guard := none }) (v := .slice A0 n0 c0) rfl (by kernel_rfl) (by kernel_rfl) (by kernel_rfl) (fun _ _ _ h => h) (Or.inl ⟨by kernel_rfl, fun W hSW => by obtain ⟨h1, h2⟩ := hSW; go_simp⟩) hS ?_
              try simp only [Act.put, List.setIfInBounds_toArray, List.set_cons_zero, List.set_cons_succ]
              refine wpAnyH_ready (rs := [10]) (by kernel_rfl) (by simp) ?_
              refine AllReadyH.cons (o := { dst := some 48, op := Op.call { callee := Callee.value (Operand.tmp 38), args := #[Operand.tmp 42, Operand.tmp 47], argTypes := #[22, 22] }, type := 4, pos := "slices.go:404", after := #[{ on := 0, ground := Ground.data }, { on := 4, ground := Ground.data }, { on := 9, ground := Ground.data }], guard := none }) rfl (fun K hK => ?_) AllReadyH.nil
              go_simp
              refine (K2.out _ (by exact ⟨rfl, rfl, rfl, Nat.le_refl _, fun _ _ _ => rfl⟩)).mono ?_
              rintro e w3 ⟨rfl, kk, rfl⟩
              refine hK.out _ _ (T2.out 0) (fun hS => ?_)
              clear hK K
              try simp only [Act.put, List.setIfInBounds_toArray, List.set_cons_zero, List.set_cons_succ]
              refine wpAnyH_take (i := 11) (oi := { dst := some 49, op := Op.unOp UnOp.not 4 (Operand.tmp 48), type := 4, pos := "slices.go:404", after := #[{ on := 10, ground := Ground.data }], guard := none }) (v := .bool false) rfl (by kernel_rfl) (by kernel_rfl) (by kernel_rfl) (fun _ _ _ h => h) (Or.inl ⟨by kernel_rfl, fun W hSW => by go_simp⟩) hS ?_
              try simp only [Act.put, List.setIfInBounds_toArray, List.set_cons_zero, List.set_cons_succ]
              refine wpAnyH_done (by kernel_rfl) ?_ _
              go_wp2
              go_roundw
              case rel => exact ⟨t + 1, V, by omega, by go_num, rfl, by omega, Lib.hid (by rw [HE2.out]; exact (hI.out.skip (by omega)).drewN _)⟩
              case measure => simp [intOf]; omega
            · have HE2 : Hid (compF (L.take (q + 1 + (t + 1 + 1))) = compF (L.take (q + 1 + (t + 1))) ++ [L.getD (q + 1 + (t + 1)) []]) := Lib.hid (HMO1.out he)
              rw [decide_eq_false he] at K2
              clear he
              go_wp2_with fail
              refine wp_region_held_drew (S := fun W => W.cell? ⟨g, q + 1 + (t + 1), none⟩ = some (.slice A1 n1 c1) ∧ W.cell? ⟨g, q + 1 + t, none⟩ = some (.slice A0 n0 c0)) (by kernel_rfl) (T2.out 0) (fun hS => ?_)
              refine wpAnyH_take (i := 0) (oi := { dst := some 38, op := Op.move (Operand.tmp 1), type := 30, pos := "slices.go:404", after := #[], guard := none }) (v := (.func (.func 80) #[] #[])) rfl (by kernel_rfl) (by kernel_rfl) (by kernel_rfl) (fun _ _ _ h => h) (Or.inl ⟨by kernel_rfl, fun W hSW => by kernel_rfl⟩) hS ?_
              try simp only [Act.put, List.setIfInBounds_toArray, List.set_cons_zero, List.set_cons_succ]
              refine wpAnyH_take (i := 1) (oi := { dst := some 39, op := Op.move (Operand.tmp 6), type := 33, pos := "slices.go:404", after := #[], guard := none }) (v := .slice (some ⟨g, q + 1, none⟩) M2 C2) rfl (by kernel_rfl) (by kernel_rfl) (by kernel_rfl) (fun _ _ _ h => h) (Or.inl ⟨by kernel_rfl, fun W hSW => by kernel_rfl⟩) hS ?_
              try simp only [Act.put, List.setIfInBounds_toArray, List.set_cons_zero, List.set_cons_succ]
              refine wpAnyH_take (i := 2) (oi := { dst := some 40, op := Op.move (Operand.tmp 7), type := 3, pos := "slices.go:404", after := #[], guard := none }) (v := .int .i64 ((t : Int) + 1)) rfl (by kernel_rfl) (by kernel_rfl) (by kernel_rfl) (fun _ _ _ h => h) (Or.inl ⟨by kernel_rfl, fun W hSW => by kernel_rfl⟩) hS ?_
              try simp only [Act.put, List.setIfInBounds_toArray, List.set_cons_zero, List.set_cons_succ]
              refine wpAnyH_take (i := 3) (oi := { dst := some 41, op := Op.indexAddr 33 (Operand.tmp 39) (Operand.tmp 40), type := 0, pos := "slices.go:404", after := #[{ on := 1, ground := Ground.data }, { on := 2, ground := Ground.data }], guard := none }) (v := .pointer (some ⟨g, q + 1 + (t + 1), none⟩)) rfl (by kernel_rfl) (by kernel_rfl) (by kernel_rfl) (fun _ _ _ h => h) (Or.inl ⟨by kernel_rfl, fun W hSW => by go_simp⟩) hS ?_
              try simp only [Act.put, List.setIfInBounds_toArray, List.set_cons_zero, List.set_cons_succ]
              refine wpAnyH_take (i := 4) (oi := { dst := some 42, op := Op.load 22 (Operand.tmp 41), type := 22, pos := "slices.go:404", after := #[{ on := 3, ground := Ground.data }], guard := none }) (v := .slice A1 n1 c1) rfl (by kernel_rfl) (by kernel_rfl) (by kernel_rfl) (fun _ _ _ h => h) (Or.inl ⟨by kernel_rfl, fun W hSW => by obtain ⟨h1, h2⟩ := hSW; go_simp⟩) hS ?_
              try simp only [Act.put, List.setIfInBounds_toArray, List.set_cons_zero, List.set_cons_succ]
              refine wpAnyH_take (i := 5) (oi := { dst := some 43, op := Op.move (Operand.tmp 6), type := 33, pos := "slices.go:404", after := #[], guard := none }) (v := .slice (some ⟨g, q + 1, none⟩) M2 C2) rfl (by kernel_rfl) (by kernel_rfl) (by kernel_rfl) (fun _ _ _ h => h) (Or.inl ⟨by kernel_rfl, fun W hSW => by kernel_rfl⟩) hS ?_
              try simp only [Act.put, List.setIfInBounds_toArray, List.set_cons_zero, List.set_cons_succ]
              refine wpAnyH_take (i := 6) (oi := { dst := some 44, op := Op.move (Operand.tmp 7), type := 3, pos := "slices.go:404", after := #[], guard := none }) (v := .int .i64 ((t : Int) + 1)) rfl (by kernel_rfl) (by kernel_rfl) (by kernel_rfl) (fun _ _ _ h => h) (Or.inl ⟨by kernel_rfl, fun W hSW => by kernel_rfl⟩) hS ?_
              try simp only [Act.put, List.setIfInBounds_toArray, List.set_cons_zero, List.set_cons_succ]
              refine wpAnyH_take (i := 7) (oi := { dst := some 45, op := Op.binOp BinOp.sub 3 (Operand.tmp 44) (Operand.const (Value.int IntKind.i64 1)) 3, type := 3, pos := "slices.go:404", after := #[{ on := 6, ground := Ground.data }], guard := none }) (v := .int .i64 (t : Int)) rfl (by kernel_rfl) (by kernel_rfl) (by kernel_rfl) (fun _ _ _ h => h) (Or.inl ⟨by kernel_rfl, fun W hSW => by go_simp⟩) hS ?_
              try simp only [Act.put, List.setIfInBounds_toArray, List.set_cons_zero, List.set_cons_succ]
              refine wpAnyH_take (i := 8) (oi := { dst := some 46, op := Op.indexAddr 33 (Operand.tmp 43) (Operand.tmp 45), type := 0, pos := "slices.go:404", after := #[{ on := 5, ground := Ground.data }, { on := 7, ground := Ground.data }], guard := none }) (v := .pointer (some ⟨g, q + 1 + t, none⟩)) rfl (by kernel_rfl) (by kernel_rfl) (by kernel_rfl) (fun _ _ _ h => h) (Or.inl ⟨by kernel_rfl, fun W hSW => by go_simp⟩) hS ?_
              try simp only [Act.put, List.setIfInBounds_toArray, List.set_cons_zero, List.set_cons_succ]
              refine wpAnyH_take (i := 9) (oi := { dst := some 47, op := Op.load 22 (Operand.tmp 46), type := 22, pos := "slices.go:404", after := #[{ on := 8, ground := Ground.data }], guard := none }) (v := .slice A0 n0 c0) rfl (by kernel_rfl) (by kernel_rfl) (by kernel_rfl) (fun _ _ _ h => h) (Or.inl ⟨by kernel_rfl, fun W hSW => by obtain ⟨h1, h2⟩ := hSW; go_simp⟩) hS ?_
              try simp only [Act.put, List.setIfInBounds_toArray, List.set_cons_zero, List.set_cons_succ]
              refine wpAnyH_ready (rs := [10]) (by kernel_rfl) (by simp) ?_
              refine AllReadyH.cons (o := { dst := some 48, op := Op.call { callee := Callee.value (Operand.tmp 38), args := #[Operand.tmp 42, Operand.tmp 47], argTypes := #[22, 22] }, type := 4, pos := "slices.go:404", after := #[{ on := 0, ground := Ground.data }, { on := 4, ground := Ground.data }, { on := 9, ground := Ground.data }], guard := none }) rfl (fun K hK => ?_) AllReadyH.nil
              go_simp
              refine (K2.out _ (by exact ⟨rfl, rfl, rfl, Nat.le_refl _, fun _ _ _ => rfl⟩)).mono ?_
              rintro e w3 ⟨rfl, kk, rfl⟩
              refine hK.out _ _ (T2.out 0) (fun hS => ?_)
              clear hK K
              try simp only [Act.put, List.setIfInBounds_toArray, List.set_cons_zero, List.set_cons_succ]
              refine wpAnyH_take (i := 11) (oi := { dst := some 49, op := Op.unOp UnOp.not 4 (Operand.tmp 48), type := 4, pos := "slices.go:404", after := #[{ on := 10, ground := Ground.data }], guard := none }) (v := .bool true) rfl (by kernel_rfl) (by kernel_rfl) (by kernel_rfl) (fun _ _ _ h => h) (Or.inl ⟨by kernel_rfl, fun W hSW => by go_simp⟩) hS ?_
              try simp only [Act.put, List.setIfInBounds_toArray, List.set_cons_zero, List.set_cons_succ]
              refine wpAnyH_done (by kernel_rfl) ?_ _
              have hV0 : (0 : Int) ≤ (V.length : Int) := by omega
              have hVm : (V.length : Int) < (m : Int) := by omega
              obtain ⟨u, hu⟩ := Option.isSome_iff_exists.1 (hI.out.all V.length (by omega))
              have hfz := hI.out.froz V.length (by omega)
              obtain ⟨p1, _⟩ := T2.out 0
              have p1 : wr.cell? ⟨g, q + 1 + (t + 1), none⟩ = some (.slice A1 n1 c1) := p1
              have HLE : Hid (vs[q + 1 + t + 1]? = some (.slice A1 n1 c1)) := Lib.hid (by
                have h := HVE.out (q + 1 + (t + 1)) (by omega)
                rw [HV1.out, ← HN1.out] at h
                exact h)
              have HLW : Hid (R (.slice A1 n1 c1) (L.getD (q + 1 + (t + 1)) [])) := Lib.hid (by
                have h := HR0.out (q + 1 + (t + 1)) (by omega)
                rw [HV1.out, ← HN1.out] at h
                exact h)
              have hVl : (V ++ [Value.slice A1 n1 c1]).length = V.length + 1 := by simp
              have HVl := Lib.hid hVl
              have hwV : IntKind.i64.wrap ((V.length : Int) + 1) = (V.length : Int) + 1 := IntWalk.i64_in _ (by omega)
              clear hVl
              go_wp2
              go_roundw
              case rel => exact ⟨t + 1, V ++ [.slice A1 n1 c1], by omega, by go_num, by rw [HVl.out]; go_num, by rw [HVl.out]; omega, Lib.hid (by rw [HE2.out]; exact (hI.out.drewN _).put HLW.out HLE.out (by omega) (by omega))⟩
              case measure => simp [intOf]; omega
          · obtain rfl : M2 = t + 1 := by omega
            have HE3 : Hid (compF (L.take (q + 1 + (t + 1))) = compF L) := Lib.hid (by rw [HMM.out, HTL.out])
            rw [HE3.out] at hI
            have hVK : Hid (V.length = (compF L).length) := Lib.hid hI.out.len
            have hVc : (V.length : Int) ≤ (cap : Int) := by omega
            have hVm : (V.length : Int) ≤ (m : Int) := by omega
            have hV0 : (0 : Int) ≤ (V.length : Int) := by omega
            have hVmn : V.length ≤ m := by omega
            have hcl : ∀ ty, (Builtin.clear_ #[33] ty #[.slice (some ⟨g, V.length, none⟩) (m - V.length) (cap - V.length)]).run Try.prog wr = .ok (.tuple #[]) (wr.setCells g V.length (List.replicate (m - V.length) (.slice none 0 0))) := fun ty =>
              Lib.run_clear_slice (P := Try.prog) wr 33 22 ty (.slice none 0 0) Try.underlying33 (fun w => by kernel_rfl) rfl rfl g V.length _ _ (by omega) (fun j hj => hI.out.all (V.length + j) (by omega)) (fun j hj => hI.out.froz (V.length + j) (by omega))
            clear e1
            go_wp2
            go_ret
            obtain ⟨r1, r2⟩ := hI.out.clear (List.replicate (m - V.length) (.slice none 0 0)) (Nat.le_refl V.length)
            exact ⟨by rw [← hVK.out]; rfl, r2, V, hVK.out, HSU.out V _ hI.out.sub, r1, hI.out.rows⟩
      · have HE : Hid (compF (L.take (q + 2)) = L.take (q + 2)) := Lib.hid (by rw [HMO1.out he, hK.out, HT2.out])
        rw [decide_eq_false he] at KC
        clear he
        go_wp2_with fail
        refine wp_region_held_drew (S := fun W => W.cell? ⟨g, q + 1, none⟩ = some (.slice A1 n1 c1) ∧ W.cell? ⟨g, q, none⟩ = some (.slice A0 n0 c0)) (by kernel_rfl) (T1.out 0) (fun hS => ?_)
        refine wpAnyH_take (i := 0) (oi := { dst := some 18, op := Op.move (Operand.tmp 1), type := 30, pos := "slices.go:401", after := #[], guard := none }) (v := (.func (.func 80) #[] #[])) rfl (by kernel_rfl) (by kernel_rfl) (by kernel_rfl) (fun _ _ _ h => h) (Or.inl ⟨by kernel_rfl, fun W hSW => by kernel_rfl⟩) hS ?_
        try simp only [Act.put, List.setIfInBounds_toArray, List.set_cons_zero, List.set_cons_succ]
        refine wpAnyH_take (i := 1) (oi := { dst := some 19, op := Op.move (Operand.tmp 0), type := 33, pos := "slices.go:401", after := #[], guard := none }) (v := .slice (some ⟨g, 0, none⟩) m cap) rfl (by kernel_rfl) (by kernel_rfl) (by kernel_rfl) (fun _ _ _ h => h) (Or.inl ⟨by kernel_rfl, fun W hSW => by kernel_rfl⟩) hS ?_
        try simp only [Act.put, List.setIfInBounds_toArray, List.set_cons_zero, List.set_cons_succ]
        refine wpAnyH_take (i := 2) (oi := { dst := some 20, op := Op.move (Operand.tmp 5), type := 3, pos := "slices.go:401", after := #[], guard := none }) (v := .int .i64 ((q : Int) + 1)) rfl (by kernel_rfl) (by kernel_rfl) (by kernel_rfl) (fun _ _ _ h => h) (Or.inl ⟨by kernel_rfl, fun W hSW => by kernel_rfl⟩) hS ?_
        try simp only [Act.put, List.setIfInBounds_toArray, List.set_cons_zero, List.set_cons_succ]
        refine wpAnyH_take (i := 3) (oi := { dst := some 21, op := Op.indexAddr 33 (Operand.tmp 19) (Operand.tmp 20), type := 0, pos := "slices.go:401", after := #[{ on := 1, ground := Ground.data }, { on := 2, ground := Ground.data }], guard := none }) (v := .pointer (some ⟨g, q + 1, none⟩)) rfl (by kernel_rfl) (by kernel_rfl) (by kernel_rfl) (fun _ _ _ h => h) (Or.inl ⟨by kernel_rfl, fun W hSW => by go_simp⟩) hS ?_
        try simp only [Act.put, List.setIfInBounds_toArray, List.set_cons_zero, List.set_cons_succ]
        refine wpAnyH_take (i := 4) (oi := { dst := some 22, op := Op.load 22 (Operand.tmp 21), type := 22, pos := "slices.go:401", after := #[{ on := 3, ground := Ground.data }], guard := none }) (v := .slice A1 n1 c1) rfl (by kernel_rfl) (by kernel_rfl) (by kernel_rfl) (fun _ _ _ h => h) (Or.inl ⟨by kernel_rfl, fun W hSW => by obtain ⟨h1, h2⟩ := hSW; go_simp⟩) hS ?_
        try simp only [Act.put, List.setIfInBounds_toArray, List.set_cons_zero, List.set_cons_succ]
        refine wpAnyH_take (i := 5) (oi := { dst := some 23, op := Op.move (Operand.tmp 0), type := 33, pos := "slices.go:401", after := #[], guard := none }) (v := .slice (some ⟨g, 0, none⟩) m cap) rfl (by kernel_rfl) (by kernel_rfl) (by kernel_rfl) (fun _ _ _ h => h) (Or.inl ⟨by kernel_rfl, fun W hSW => by kernel_rfl⟩) hS ?_
        try simp only [Act.put, List.setIfInBounds_toArray, List.set_cons_zero, List.set_cons_succ]
        refine wpAnyH_take (i := 6) (oi := { dst := some 24, op := Op.move (Operand.tmp 5), type := 3, pos := "slices.go:401", after := #[], guard := none }) (v := .int .i64 ((q : Int) + 1)) rfl (by kernel_rfl) (by kernel_rfl) (by kernel_rfl) (fun _ _ _ h => h) (Or.inl ⟨by kernel_rfl, fun W hSW => by kernel_rfl⟩) hS ?_
        try simp only [Act.put, List.setIfInBounds_toArray, List.set_cons_zero, List.set_cons_succ]
        refine wpAnyH_take (i := 7) (oi := { dst := some 25, op := Op.binOp BinOp.sub 3 (Operand.tmp 24) (Operand.const (Value.int IntKind.i64 1)) 3, type := 3, pos := "slices.go:401", after := #[{ on := 6, ground := Ground.data }], guard := none }) (v := .int .i64 (q : Int)) rfl (by kernel_rfl) (by kernel_rfl) (by kernel_rfl) (fun _ _ _ h => h) (Or.inl ⟨by kernel_rfl, fun W hSW => by go_simp⟩) hS ?_
        try simp only [Act.put, List.setIfInBounds_toArray, List.set_cons_zero, List.set_cons_succ]
        refine wpAnyH_take (i := 8) (oi := { dst := some 26, op := Op.indexAddr 33 (Operand.tmp 23) (Operand.tmp 25), type := 0, pos := "slices.go:401", after := #[{ on := 5, ground := Ground.data }, { on := 7, ground := Ground.data }], guard := none }) (v := .pointer (some ⟨g, q, none⟩)) rfl (by kernel_rfl) (by kernel_rfl) (by kernel_rfl) (fun _ _ _ h => h) (Or.inl ⟨by kernel_rfl, fun W hSW => by go_simp⟩) hS ?_
        try simp only [Act.put, List.setIfInBounds_toArray, List.set_cons_zero, List.set_cons_succ]
        refine wpAnyH_take (i := 9) (oi := { dst := some 27, op := Op.load 22 (Operand.tmp 26), type := 22, pos := "slices.go:401", after := #[{ on := 8, ground := Ground.data }], guard := none }) (v := .slice A0 n0 c0) rfl (by kernel_rfl) (by kernel_rfl) (by kernel_rfl) (fun _ _ _ h => h) (Or.inl ⟨by kernel_rfl, fun W hSW => by obtain ⟨h1, h2⟩ := hSW; go_simp⟩) hS ?_
        try simp only [Act.put, List.setIfInBounds_toArray, List.set_cons_zero, List.set_cons_succ]
        refine wpAnyH_ready (rs := [10]) (by kernel_rfl) (by simp) ?_
        refine AllReadyH.cons (o := { dst := some 28, op := Op.call { callee := Callee.value (Operand.tmp 18), args := #[Operand.tmp 22, Operand.tmp 27], argTypes := #[22, 22] }, type := 4, pos := "slices.go:401", after := #[{ on := 0, ground := Ground.data }, { on := 4, ground := Ground.data }, { on := 9, ground := Ground.data }], guard := none }) rfl (fun K hK => ?_) AllReadyH.nil
        go_simp
        refine (KC.out _ (by exact GrG.drewN g w _)).mono ?_
        rintro e w3 ⟨rfl, kk, rfl⟩
        refine hK.out _ _ (T1.out 0) (fun hS => ?_)
        clear hK K
        try simp only [Act.put, List.setIfInBounds_toArray, List.set_cons_zero, List.set_cons_succ]
        refine wpAnyH_done (by kernel_rfl) ?_ _
        go_wp2
        go_roundw
        case rel => exact ⟨q + 1, _, by omega, by go_num, HE, by first | rfl | exact World.drewN_drewN _ _ _⟩
        case measure => simp [intOf]; omega
    · obtain rfl : m = q + 1 := by omega
      have HE : Hid (compF L = L) := Lib.hid (by have h1 := hK.out; rw [HTL.out] at h1; exact h1)
      go_wp2
      go_ret
      have hS := HST.out q z (by omega)
      have h1 : vs.take (q + 1) = vs := List.take_of_length_le (by rw [HVL.out]; exact Nat.le_refl _)
      rw [HTL.out, h1] at hS
      refine ⟨by rw [HE.out, HL.out]; rfl, hS.grown, vs, ?_⟩
      rw [HE.out]
      exact ⟨hS.len, List.Sublist.refl _, hS.done, hS.rows⟩
end Go.Proofs.Ytpehhbiodmgjeaa
