/- Walk: TopHedges. -/
import Derived.Test.YtmepndnckcpgjaaGreatS1
import Derived.Test.YtmepndnckcpgjaaGreatW18
import Derived.Test.YtmepndnckcpgjaaGreatF4
import Derived.Test.YtmepndnckcpgjaaGreatPlain24
import Derived.StillTailTactics
import Derived.Deep.DeepCutAuto
namespace Go.Proofs.YtmepndnckcpgjaaGreat
open Go.RowKit
theorem beds_intsS {w : World} {A : Option Addr} {n c : Nat} {b : List (List Int)} (h : Beds w A n c b) : IntsS w A n b := by
  refine ⟨h.1, by have := h.2.1; omega, fun hp => ?_⟩
  obtain ⟨g, o, e, hc⟩ := h.2.2.2.2 hp
  refine ⟨g, o, e, fun j hj => ?_⟩
  obtain ⟨B, d, h1, _, _, h4⟩ := hc j hj
  exact ⟨B, d, h1, h4⟩
set_option maxRecDepth 100000 in
set_option maxHeartbeats 16000000 in
/-- dibbertop.TopHedges -/
theorem f4_any (n : Int) (A : Option Addr) (m c : Nat) (fs : List (Int × Int)) (w : World) (hs : Fens w A m fs) (hsm : m ≤ 9223372036854775807) :
    Calls Tryz.prog 4 #[.int .i64 n, .slice A m c] w fun e w' => e = .returned (.bool true) ∧ Below w.heap.size w w' := by
  have HS := Lib.hid hs
  have HL := Lib.hid hs.len
  clear hs
  by_cases h1 : n < 1
  · go_enter Tryz.func4, Tryz.ntmps4
    go_wp2_with fail
    refine (f7_any w).mono ?_
    rintro e w1 ⟨rfl, hb⟩
    have HB := Lib.hid hb
    clear hb
    go_wp2
    go_ret
    exact ⟨rfl, HB.out⟩
  by_cases h6 : 6 < n
  · go_enter Tryz.func4, Tryz.ntmps4
    go_wp2_with fail
    refine (f7_any w).mono ?_
    rintro e w1 ⟨rfl, hb⟩
    have HB := Lib.hid hb
    clear hb
    go_wp2
    go_ret
    exact ⟨rfl, HB.out⟩
  by_cases h14 : 14 < m
  · have h14i : (14 : Int) < (m : Int) := by omega
    go_enter Tryz.func4, Tryz.ntmps4
    go_wp2_with fail
    refine (f7_any w).mono ?_
    rintro e w1 ⟨rfl, hb⟩
    have HB := Lib.hid hb
    clear hb
    go_wp2
    go_ret
    exact ⟨rfl, HB.out⟩
  obtain ⟨n, rfl⟩ := nat_of n (by omega)
  have h14i : ¬ (14 : Int) < (m : Int) := by omega
  have HSN : Hid (∀ k, k < m → hedL (fs.take (k + 1)) = hedL (fs.take k) ++ [[(fs.getD k (0, 0)).1, (fs.getD k (0, 0)).2, 1]]) := Lib.hid fun k hk => hedL_snoc fs (by rw [HL.out]; exact hk)
  have HHL : Hid (∀ k, k ≤ m → (hedL (fs.take k)).length = k) := Lib.hid fun k hk => by
    unfold hedL
    rw [List.length_map, List.length_take, HL.out]
    omega
  have HH0 : Hid (hedL (fs.take 0) = []) := Lib.hid rfl
  go_enter Tryz.func4, Tryz.ntmps4
  go_wp2
  go_loopw [5, 6] (fun vi ii wr => ∃ (k : Nat) (v : Value) (vs : List Value), k ≤ m ∧ ii = .int .i64 (k : Int) ∧ v = vi ∧ Hid (RowV wr w.heap.size v vs) ∧ Hid (Rows3 wr vs (hedL (fs.take k))) ∧ Hid (∀ j, j < k → (fs.getD j (0, 0)).1 ≠ (fs.getD j (0, 0)).2) ∧ Hid (Below w.heap.size w wr)) (fun _ ii _ => m - (intOf ii).toNat)
  case atStart => exact ⟨0, _, [], by omega, rfl, rfl, Lib.hid (RowV.nil _ _), Lib.hid (by rw [HH0.out]; exact Rows3.nil _), Lib.hid fun j hj => absurd hj (by omega), Lib.hid (Below.refl _ _)⟩
  case round => as_aux_lemma =>
    obtain ⟨k, v5, vs, hk, rfl, rfl, HV, HR, HN, HB⟩ := hrel
    by_cases hkm : k < m
    · have k0 : (0 : Int) ≤ (k : Int) := by omega
      have km : (k : Int) < (m : Int) := by omega
      obtain ⟨b, off, rfl, e1, e2⟩ := HS.out.at_ hkm
      have c1 := (HB.out.cell (lt_of_cell e1)).trans e1
      have c2 := (HB.out.cell (lt_of_cell e2)).trans e2
      have HSN1 := Lib.hid (HSN.out k hkm)
      have HNK : Hid ((fs.getD k (0, 0)).1 ≠ (fs.getD k (0, 0)).2 → ∀ j, j < k + 1 → (fs.getD j (0, 0)).1 ≠ (fs.getD j (0, 0)).2) := Lib.hid fun h j hj => by
        rcases Nat.lt_or_ge j k with h2 | h2
        · exact HN.out j h2
        · obtain rfl : j = k := by omega
          exact h
      generalize hf : fs.getD k (0, 0) = f at *
      obtain ⟨fa, fb⟩ := f
      clear hf
      by_cases hab : fa = fb
      · have q1 : (fa == fb) = true := by simp [hab]
        clear hab
        go_wp2
        go_quiet (fail)
        go_wp2_with fail
        refine (f7_any _).mono ?_
        rintro e w1 ⟨rfl, hb⟩
        have HB1 := Lib.hid (below_step (below_drewN HB.out _) hb)
        clear hb
        go_wp2
        go_ret
        exact ⟨rfl, HB1.out⟩
      · have q1 : (fa == fb) = false := by simp [hab]
        have HNN := Lib.hid (HNK.out hab)
        clear hab HNK
        go_wp2
        go_quiet (fail)
        go_upto_region 9 with fail
        have d1 : (wr.drewN nq).cell? ⟨b, off + k * 2, none⟩ = some (.int .i64 fa) := c1
        have d2 : (wr.drewN nq).cell? ⟨b, off + k * 2 + 1, none⟩ = some (.int .i64 fb) := c2
        have HV9 := Lib.hid (HV.out.drewN nq)
        have HR9 := Lib.hid (HR.out.drewN nq)
        have HB9 := Lib.hid (below_drewN HB.out nq)
        generalize wr.drewN nq = W9 at *
        refine wp_region_held_drew (S := fun W => Below w.heap.size w W) (by kernel_rfl) (HB9.out.drew) (fun hS => ?_)
        refine wpAnyH_take (i := 0) (oi := { dst := some 46, op := Op.move (Operand.tmp 5), type := 29, pos := "top08.go:112", after := #[], guard := none }) (v := v5) rfl (by kernel_rfl) (by kernel_rfl) (by kernel_rfl) (fun _ _ _ h => h) (Or.inl ⟨by kernel_rfl, fun W hSW => by kernel_rfl⟩) hS ?_
        try simp only [Act.put, List.setIfInBounds_toArray, List.set_cons_zero, List.set_cons_succ]
        refine wpAnyH_take (i := 1) (oi := { dst := some 47, op := Op.move (Operand.tmp 1), type := 22, pos := "top08.go:112", after := #[], guard := none }) (v := .slice (some ⟨b, off, none⟩) m c) rfl (by kernel_rfl) (by kernel_rfl) (by kernel_rfl) (fun _ _ _ h => h) (Or.inl ⟨by kernel_rfl, fun W hSW => by kernel_rfl⟩) hS ?_
        try simp only [Act.put, List.setIfInBounds_toArray, List.set_cons_zero, List.set_cons_succ]
        refine wpAnyH_take (i := 2) (oi := { dst := some 48, op := Op.move (Operand.tmp 6), type := 3, pos := "top08.go:112", after := #[], guard := none }) (v := .int .i64 (k : Int)) rfl (by kernel_rfl) (by kernel_rfl) (by kernel_rfl) (fun _ _ _ h => h) (Or.inl ⟨by kernel_rfl, fun W hSW => by kernel_rfl⟩) hS ?_
        try simp only [Act.put, List.setIfInBounds_toArray, List.set_cons_zero, List.set_cons_succ]
        refine wpAnyH_take (i := 3) (oi := { dst := some 49, op := Op.indexAddr 22 (Operand.tmp 47) (Operand.tmp 48), type := 0, pos := "top08.go:112", after := #[{ on := 1, ground := Ground.data }, { on := 2, ground := Ground.data }], guard := none }) (v := .pointer (some ⟨b, off + k * 2, none⟩)) rfl (by kernel_rfl) (by kernel_rfl) (by kernel_rfl) (fun _ _ _ h => h) (Or.inl ⟨by kernel_rfl, fun W hSW => by go_simp⟩) hS ?_
        try simp only [Act.put, List.setIfInBounds_toArray, List.set_cons_zero, List.set_cons_succ]
        refine wpAnyH_take (i := 4) (oi := { dst := some 50, op := Op.fieldAddr 37 (Operand.tmp 49) 0, type := 0, pos := "top08.go:112", after := #[{ on := 3, ground := Ground.data }], guard := none }) (v := .pointer (some ⟨b, off + k * 2, none⟩)) rfl (by kernel_rfl) (by kernel_rfl) (by kernel_rfl) (fun _ _ _ h => h) (Or.inl ⟨by kernel_rfl, fun W hSW => by go_simp⟩) hS ?_
        try simp only [Act.put, List.setIfInBounds_toArray, List.set_cons_zero, List.set_cons_succ]
        refine wpAnyH_take (i := 5) (oi := { dst := some 51, op := Op.load 3 (Operand.tmp 50), type := 3, pos := "top08.go:112", after := #[{ on := 4, ground := Ground.data }], guard := none }) (v := .int .i64 fa) rfl (by kernel_rfl) (by kernel_rfl) (by kernel_rfl) (fun _ _ _ h => h) (Or.inl ⟨by kernel_rfl, fun W hSW => by have d1 := (hSW.cell (lt_of_cell e1)).trans e1; have d2 := (hSW.cell (lt_of_cell e2)).trans e2; clear hSW; go_simp⟩) hS ?_
        try simp only [Act.put, List.setIfInBounds_toArray, List.set_cons_zero, List.set_cons_succ]
        refine wpAnyH_take (i := 6) (oi := { dst := some 52, op := Op.move (Operand.tmp 1), type := 22, pos := "top08.go:112", after := #[], guard := none }) (v := .slice (some ⟨b, off, none⟩) m c) rfl (by kernel_rfl) (by kernel_rfl) (by kernel_rfl) (fun _ _ _ h => h) (Or.inl ⟨by kernel_rfl, fun W hSW => by kernel_rfl⟩) hS ?_
        try simp only [Act.put, List.setIfInBounds_toArray, List.set_cons_zero, List.set_cons_succ]
        refine wpAnyH_take (i := 7) (oi := { dst := some 53, op := Op.move (Operand.tmp 6), type := 3, pos := "top08.go:112", after := #[], guard := none }) (v := .int .i64 (k : Int)) rfl (by kernel_rfl) (by kernel_rfl) (by kernel_rfl) (fun _ _ _ h => h) (Or.inl ⟨by kernel_rfl, fun W hSW => by kernel_rfl⟩) hS ?_
        try simp only [Act.put, List.setIfInBounds_toArray, List.set_cons_zero, List.set_cons_succ]
        refine wpAnyH_take (i := 8) (oi := { dst := some 54, op := Op.indexAddr 22 (Operand.tmp 52) (Operand.tmp 53), type := 0, pos := "top08.go:112", after := #[{ on := 6, ground := Ground.data }, { on := 7, ground := Ground.data }], guard := none }) (v := .pointer (some ⟨b, off + k * 2, none⟩)) rfl (by kernel_rfl) (by kernel_rfl) (by kernel_rfl) (fun _ _ _ h => h) (Or.inl ⟨by kernel_rfl, fun W hSW => by go_simp⟩) hS ?_
        try simp only [Act.put, List.setIfInBounds_toArray, List.set_cons_zero, List.set_cons_succ]
        refine wpAnyH_take (i := 9) (oi := { dst := some 55, op := Op.fieldAddr 37 (Operand.tmp 54) 1, type := 0, pos := "top08.go:112", after := #[{ on := 8, ground := Ground.data }], guard := none }) (v := .pointer (some ⟨b, off + k * 2 + 1, none⟩)) rfl (by kernel_rfl) (by kernel_rfl) (by kernel_rfl) (fun _ _ _ h => h) (Or.inl ⟨by kernel_rfl, fun W hSW => by go_simp⟩) hS ?_
        try simp only [Act.put, List.setIfInBounds_toArray, List.set_cons_zero, List.set_cons_succ]
        refine wpAnyH_take (i := 10) (oi := { dst := some 56, op := Op.load 3 (Operand.tmp 55), type := 3, pos := "top08.go:112", after := #[{ on := 9, ground := Ground.data }], guard := none }) (v := .int .i64 fb) rfl (by kernel_rfl) (by kernel_rfl) (by kernel_rfl) (fun _ _ _ h => h) (Or.inl ⟨by kernel_rfl, fun W hSW => by have d1 := (hSW.cell (lt_of_cell e1)).trans e1; have d2 := (hSW.cell (lt_of_cell e2)).trans e2; clear hSW; go_simp⟩) hS ?_
        try simp only [Act.put, List.setIfInBounds_toArray, List.set_cons_zero, List.set_cons_succ]
        refine wpAnyH_ready (rs := [11]) (by kernel_rfl) (by simp) ?_
        refine AllReadyH.cons (o := { dst := some 57, op := Op.buildSlice 23 3 #[(0, Operand.tmp 51), (1, Operand.tmp 56), (2, Operand.const (Value.int IntKind.i64 1))], type := 23, pos := "top08.go:112", after := #[{ on := 5, ground := Ground.data }, { on := 10, ground := Ground.data }], guard := none }) rfl (fun K hK => ?_) AllReadyH.nil
        go_simp
        refine hK.out _ _ (hS.alloc hS.size _) (fun hS => ?_)
        clear hK K
        try simp only [Act.put, List.setIfInBounds_toArray, List.set_cons_zero, List.set_cons_succ]
        refine wpAnyH_ready (rs := [12]) (by kernel_rfl) (by simp) ?_
        refine AllReadyH.cons (o := { dst := some 58, op := Op.buildSlice 29 1 #[(0, Operand.tmp 57)], type := 29, pos := "top08.go:112", after := #[{ on := 11, ground := Ground.data }], guard := none }) rfl (fun K hK => ?_) AllReadyH.nil
        go_simp
        refine hK.out _ _ (hS.alloc hS.size _) (fun hS => ?_)
        clear hK K
        try simp only [Act.put, List.setIfInBounds_toArray, List.set_cons_zero, List.set_cons_succ]
        have hn0 : (0 : Nat) = 0 := rfl
        have ba := below_alloc W9.drew (.cells #[.int .i64 fa, .int .i64 fb, .int .i64 1] 3)
        have bb := below_alloc (W9.drew.alloc (.cells #[.int .i64 fa, .int .i64 fb, .int .i64 1] 3)) (.cells #[.slice (some ⟨W9.drew.heap.size, 0, none⟩) 3 3] 23)
        have o1 : Own (W9.drew.alloc (.cells #[.int .i64 fa, .int .i64 fb, .int .i64 1] 3)) W9.drew.heap.size [fa, fb, 1] := heap_alloc_new W9.drew _
        have o2 := o1.below' bb
        have hrow := (HV9.out.drew.alloc (.cells #[.int .i64 fa, .int .i64 fb, .int .i64 1] 3)).alloc (.cells #[.slice (some ⟨W9.drew.heap.size, 0, none⟩) 3 3] 23)
        have hr2 := (HR9.out.drew.below ba).below bb
        have hb2 := below_step (below_step HB9.out.drew ba) bb
        have hone := Rows3.one (o2.ints' rfl (by decide)) (by decide) (fun h => by cases h) o2.own3 (n := 3) (d := 3)
        have hc : ((W9.drew.alloc (.cells #[.int .i64 fa, .int .i64 fb, .int .i64 1] 3)).alloc (.cells #[.slice (some ⟨W9.drew.heap.size, 0, none⟩) 3 3] 23)).cell? ⟨W9.drew.heap.size + 1, 0, none⟩ = some (.slice (some ⟨W9.drew.heap.size, 0, none⟩) 3 3) := (cell_of_row _ _ 0 _ 23 (0, 0) (by have := heap_alloc_new (W9.drew.alloc (.cells #[.int .i64 fa, .int .i64 fb, .int .i64 1] 3)) (.cells #[.slice (some ⟨W9.drew.heap.size, 0, none⟩) 3 3] 23); simpa only [World.size_alloc] using this)).trans rfl
        have hl : vs.length ≤ 1000000 := by
          have := HR9.out.1
          rw [HHL.out k (by omega)] at this
          omega
        have hbz := hb2.size
        refine wpAnyH_ready (rs := [13]) (by kernel_rfl) (by simp) ?_
        refine AllReadyH.cons (o := { dst := some 59, op := Op.call { callee := Callee.builtin Builtin.append, args := #[Operand.tmp 46, Operand.tmp 58], argTypes := #[29, 29] }, type := 29, pos := "top08.go:112", after := #[{ on := 0, ground := Ground.data }, { on := 12, ground := Ground.data }], guard := none }) rfl (fun K hK => ?_) AllReadyH.nil
        refine step_pushV rfl (.tmp 46) (.tmp 58) rfl w.heap.size v5 vs rfl hrow (W9.drew.heap.size + 1) 1 (some ⟨W9.drew.heap.size, 0, none⟩) 3 3 rfl hc hl hbz ?_
        intro v' w' hv' hg _
        have HV3 := Lib.hid hv'
        have HR3 : Hid (Rows3 w' (vs ++ [.slice (some ⟨W9.drew.heap.size, 0, none⟩) 3 3]) (hedL (fs.take (k + 1)))) := Lib.hid (by
          rw [HSN1.out]
          exact (hr2.grown hrow hg).append (hone.grown hrow hg))
        have HB3 := Lib.hid (below_grownV hb2 hg hbz hrow (Nat.le_refl _))
        clear hv' hg
        refine hK.out _ _ HB3.out (fun hS => ?_)
        clear hK K
        try simp only [Act.put, List.setIfInBounds_toArray, List.set_cons_zero, List.set_cons_succ]
        refine wpAnyH_take (i := 14) (oi := { dst := some 5, op := Op.assign (Operand.tmp 59), type := 29, pos := "top08.go:112", after := #[{ on := 13, ground := Ground.data }, { on := 13, ground := Ground.chain }, { on := 0, ground := Ground.phase }, { on := 1, ground := Ground.phase }, { on := 2, ground := Ground.phase }, { on := 3, ground := Ground.phase }, { on := 4, ground := Ground.phase }, { on := 5, ground := Ground.phase }, { on := 6, ground := Ground.phase }, { on := 7, ground := Ground.phase }, { on := 8, ground := Ground.phase }, { on := 9, ground := Ground.phase }, { on := 10, ground := Ground.phase }, { on := 11, ground := Ground.phase }, { on := 12, ground := Ground.phase }, { on := 13, ground := Ground.phase }], guard := none }) (v := v') rfl (by kernel_rfl) (by kernel_rfl) (by kernel_rfl) (fun _ _ _ h => h) (Or.inl ⟨by kernel_rfl, fun W hSW => by kernel_rfl⟩) hS ?_
        try simp only [Act.put, List.setIfInBounds_toArray, List.set_cons_zero, List.set_cons_succ]
        refine wpAnyH_done (by kernel_rfl) ?_ _
        clear hS ba bb o1 o2 hrow hr2 hb2 hone hc hbz
        go_wp2
        go_roundw
        case rel => exact ⟨k + 1, _, _, by omega, by go_num, rfl, HV3, HR3, HNN, HB3⟩
        case measure => simp [intOf]; omega
    · obtain rfl : k = m := by omega
      have hlen := HHL.out k (Nat.le_refl _)
      obtain ⟨A2, c2, rfl, hb3⟩ := RowV.beds3 HV.out HR.out (by rw [hlen]; omega)
      have htk : fs.take k = fs := by rw [← HL.out]; exact List.take_length
      rw [htk] at hlen hb3
      rw [htk, hlen]
      have HIS : Hid (IntsS wr A2 k (hedL fs)) := Lib.hid (by
        have := beds_intsS hb3.beds
        rwa [hlen] at this)
      have hcg := cut_gar (n := n) (by omega) (by omega) (by rw [HL.out]; omega) (fun j hj => HN.out j (by rw [HL.out] at hj; exact hj))
      have HS1 := Lib.hid (HS.out.below HB.out)
      clear hb3 hlen htk HV HR HSN HHL
      by_cases hE : garE n fs = 0
      · have hcE : cutErr n (hedL fs) = 0 := hcg.trans hE
        have hcR : cutR n (hedL fs) = cutL n (hedL fs) := by unfold cutR; rw [if_pos hcE, Int.toNat_natCast]
        have HAP := Lib.hid (apart_law (n := n) (by omega) hE)
        have HBR := Lib.hid (bridge_law (n := n) (by omega) hE)
        have hgr : grR n fs = groupsN n fs (allM fs.length) := by unfold grR; rw [if_pos hE, Int.toNat_natCast]
        have hbrl : brL n fs = brTo n fs fs.length := by unfold brL; rw [if_pos hE, Int.toNat_natCast]
        have K13 := Lib.hid (f22_any A2 n k c2 (hedL fs) wr HIS.out)
        rw [hcR, hcE] at K13
        have hcl := cutL_len n (hedL fs)
        have K11 := Lib.hid fun W (hW : Below wr.heap.size wr W) => f11_any n A k c fs W (fun _ => HS1.out.below hW) HL.out hsm
        have K14 := Lib.hid fun W (hW : Below wr.heap.size wr W) => f14_any n A k c fs W (fun _ => HS1.out.below hW) HL.out hsm
        rw [hgr, hE] at K11
        rw [hbrl, hE] at K14
        generalize cutL n (hedL fs) = cs at *
        generalize groupsN n fs (allM fs.length) = G at *
        generalize (brTo n fs fs.length).length = L at *
        clear hcg hcE hcR hgr hbrl hE
        go_wp2_with fail
        refine K13.out.mono ?_
        rintro e w1 ⟨A3, k3, c3, rfl, hi, hb⟩
        have HW1 := Lib.hid hb
        have HI1 := Lib.hid hi
        clear hi hb
        go_wp2_with fail
        refine (K11.out w1 HW1.out).mono ?_
        rintro e w2 ⟨rfl, hb⟩
        have HW2 := Lib.hid (below_step HW1.out hb)
        have HI2 := Lib.hid (HI1.out.below hb)
        clear hb
        go_wp2_with fail
        refine (K14.out w2 HW2.out).mono ?_
        rintro e w3 ⟨A4, c4, rfl, hb⟩
        have HW3 := Lib.hid (below_step HB.out (below_step HW2.out hb))
        have hi := HI2.out.below hb
        clear hb
        obtain ⟨N, hN, hshl⟩ := shl_one n (by omega)
        have hN2 : 2 ≤ N := by rw [hN]; exact Nat.le_trans (by decide : 2 ≤ 2 ^ 1) (Nat.pow_le_pow_right (by omega) (by omega))
        have hN64 : N ≤ 64 := by rw [hN]; exact Nat.le_trans (Nat.pow_le_pow_right (by omega) (show n ≤ 6 by omega)) (by decide)
        have hk3 : k3 = N := by have := hi.len; omega
        subst hk3
        rw [← hN] at HAP HBR
        obtain ⟨b3, o3, rfl, hc3⟩ := hi.ad (by omega)
        have HC3 := Lib.hid hc3
        have hwN : IntKind.i64.wrap ((k3 : Int) - 1) = (k3 : Int) - 1 := IntWalk.i64_in _ (by omega)
        have HA1 := Lib.hid (apT_one cs 0)
        have HO1 := Lib.hid (apT_one cs 1)
        have HAN : Hid (∀ x, 1 ≤ x → apT cs 0 (x + 1) = (apT cs 0 x || (cs.getD x 0 == 0))) := Lib.hid fun x hx => apT_next cs 0 hx
        have HON : Hid (∀ x, 1 ≤ x → apT cs 1 (x + 1) = (apT cs 1 x || (cs.getD x 0 == 1))) := Lib.hid fun x hx => apT_next cs 1 hx
        clear hi hc3 hN hcl
        go_wp2
        go_loopw [13, 14, 15] (fun ai oi xi wq => ∃ x : Nat, 1 ≤ x ∧ x ≤ k3 - 1 ∧ xi = .int .i64 (x : Int) ∧ ai = .bool (apT cs 0 x) ∧ oi = .bool (apT cs 1 x) ∧ w3 = wq) (fun _ _ xi _ => k3 - (intOf xi).toNat)
        case atStart => exact ⟨1, by omega, by omega, rfl, by rw [HA1.out], by rw [HO1.out], rfl⟩
        case round => as_aux_lemma =>
          obtain ⟨x, hx1, hx2, rfl, rfl, rfl, rfl⟩ := hrel
          by_cases hxk : x < k3 - 1
          · have hxi : (x : Int) < (k3 : Int) - 1 := by omega
            have hx0 : (0 : Int) ≤ (x : Int) := by omega
            have hxk3 : (x : Int) < (k3 : Int) := by omega
            have c1 := HC3.out x (by omega)
            have HA2 := Lib.hid (HAN.out x hx1)
            have HO2 := Lib.hid (HON.out x hx1)
            generalize cs.getD x 0 = cx at *
            cases hav : apT cs 0 x <;> cases hov : apT cs 1 x
            all_goals
              rw [hav] at HA2
              rw [hov] at HO2
              clear hav hov
              go_wp2
              go_roundw
              case rel => exact ⟨x + 1, by omega, by omega, by go_num, by rw [HA2.out]; simp, by rw [HO2.out]; simp, trivial⟩
              case measure => simp [intOf]; omega
          · obtain rfl : x = k3 - 1 := by omega
            have hxi : ((k3 - 1 : Nat) : Int) = (k3 : Int) - 1 := by omega
            rw [hxi, HAP.out, HBR.out]
            by_cases hG : 1 < G
            · have hGd : decide (1 < G) = true := by simp [hG]
              by_cases hL : 0 < L
              · have hLd : decide (0 < L) = true := by simp [hL]
                have hLi : decide (0 < (L : Int)) = true := by simp [hL]
                rw [hGd, hLd]
                clear hG hL
                go_wp2_with fail
                refine (f7_any _).mono ?_
                rintro e w4 ⟨rfl, hb⟩
                have HB4 := Lib.hid (below_step HW3.out hb)
                clear hb
                go_wp2
                go_ret
                exact ⟨rfl, HB4.out⟩
              · have hLd : decide (0 < L) = false := by simp [hL]
                have hLi : decide (0 < (L : Int)) = false := by simp [hL]
                rw [hGd, hLd]
                clear hG hL
                go_wp2_with fail
                refine (f7_any _).mono ?_
                rintro e w4 ⟨rfl, hb⟩
                have HB4 := Lib.hid (below_step HW3.out hb)
                clear hb
                go_wp2
                go_ret
                exact ⟨rfl, HB4.out⟩
            · have hGd : decide (1 < G) = false := by simp [hG]
              by_cases hL : 0 < L
              · have hLd : decide (0 < L) = true := by simp [hL]
                have hLi : decide (0 < (L : Int)) = true := by simp [hL]
                rw [hGd, hLd]
                clear hG hL
                go_wp2_with fail
                refine (f7_any _).mono ?_
                rintro e w4 ⟨rfl, hb⟩
                have HB4 := Lib.hid (below_step HW3.out hb)
                clear hb
                go_wp2
                go_ret
                exact ⟨rfl, HB4.out⟩
              · have hLd : decide (0 < L) = false := by simp [hL]
                have hLi : decide (0 < (L : Int)) = false := by simp [hL]
                rw [hGd, hLd]
                clear hG hL
                go_wp2_with fail
                refine (f7_any _).mono ?_
                rintro e w4 ⟨rfl, hb⟩
                have HB4 := Lib.hid (below_step HW3.out hb)
                clear hb
                go_wp2
                go_ret
                exact ⟨rfl, HB4.out⟩
      · have hE2 : garE n fs = 2 := by
          have hh := hE
          unfold garE at hh ⊢
          rw [if_neg (show ¬ ((n : Int) < 1 ∨ 8 < (n : Int)) by omega), if_neg (show ¬ 14 < fs.length by rw [HL.out]; omega)] at hh ⊢
          cases hv : fs.any (fB n)
          · rw [hv] at hh; exact absurd rfl hh
          · rfl
        have K13 := Lib.hid (f22_any A2 n k c2 (hedL fs) wr HIS.out)
        rw [hcg, hE2] at K13
        have K11 := Lib.hid fun W (hW : Below wr.heap.size wr W) => f11_any n A k c fs W (fun _ => HS1.out.below hW) HL.out hsm
        have K14 := Lib.hid fun W (hW : Below wr.heap.size wr W) => f14_any n A k c fs W (fun _ => HS1.out.below hW) HL.out hsm
        rw [hE2] at K11
        rw [hE2] at K14
        clear hcg hE hE2
        go_wp2_with fail
        refine K13.out.mono ?_
        rintro e w1 ⟨A3, k3, c3, rfl, _, hb⟩
        have HW1 := Lib.hid hb
        clear hb
        go_wp2_with fail
        refine (K11.out w1 HW1.out).mono ?_
        rintro e w2 ⟨rfl, hb⟩
        have HW2 := Lib.hid (below_step HW1.out hb)
        clear hb
        go_wp2_with fail
        refine (K14.out w2 HW2.out).mono ?_
        rintro e w3 ⟨A4, c4, rfl, hb⟩
        have HW3 := Lib.hid (below_step HB.out (below_step HW2.out hb))
        clear hb
        go_wp2_with fail
        refine (f7_any _).mono ?_
        rintro e w4 ⟨rfl, hb⟩
        have HB4 := Lib.hid (below_step HW3.out hb)
        clear hb
        go_wp2
        go_ret
        exact ⟨rfl, HB4.out⟩
end Go.Proofs.YtmepndnckcpgjaaGreat
