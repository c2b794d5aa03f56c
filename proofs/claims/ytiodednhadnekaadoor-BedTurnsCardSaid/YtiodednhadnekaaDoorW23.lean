/- Walks: Mate$1. -/
import Derived.Test.YtiodednhadnekaaDoorW22
namespace Go.Proofs.YtiodednhadnekaaDoor
open Go.RowKit Go.Deep
attribute [local go_sem ↓] Go.wp_at_zero Go.wp_at_succ

theorem enter62 (args : Array Value) (w : World) : (callFunc 62 args).run Tryd.prog w = .ok (.enter 62 args) w := by simp [go_sem]
set_option maxRecDepth 100000 in
set_option maxHeartbeats 4000000 in
/-- bed.Mate$1 -/
theorem f62_any (n base pS gS : Nat) (done : List (List Nat)) (A : Option Addr) (ca : Nat) (l : List Nat) (w : World) (hn : 0 < n) (hn7 : n ≤ 7) (hI : SetsI n base pS gS done w) (hd : done.length ≤ 1000000) (hl : l.length = n) (hl0 : l.getD 0 0 < n) (hli : IntsN (SOwn gS) w A l) :
    Calls Tryd.prog 62 #[.slice A n ca, .pointer (some ⟨pS, 0, none⟩)] w fun e w' => e = .returned (.bool false) ∧ SetsI n base pS gS (done ++ [l]) w' ∧ Kept (SOwn gS) w w' := by
  obtain ⟨j, hj⟩ : ∃ j, j = l.getD 0 0 := ⟨_, rfl⟩
  rw [← hj] at hl0
  obtain ⟨B, m, c, vs, hc, hfz, hvs, hvl, hbl⟩ := hI.at_ hl0
  have hIN := hli.1
  rw [hl] at hIN
  obtain ⟨bl, ol, hA, hcl⟩ := hIN.at_ hn
  rw [Nat.add_zero, zs_get, ← hj] at hcl
  subst hA
  have hpS : w.cell? ⟨pS, 0, none⟩ = some (.slice (some ⟨gS, 0, none⟩) n n) := by obtain ⟨us, h1, h2, h3, h4, _⟩ := hI; exact h4
  have hbase : base ≤ w.heap.size := by have := hI.lt (.inl rfl : SOwn gS w gS); omega
  have hvm : vs.length ≤ 1000000 := by
    have : (byCol done j).length ≤ done.length := List.length_filter_le _ _
    omega
  have hnp : ¬ SOwn gS w pS := by obtain ⟨us, h1, h2, h3, h4, h5, _⟩ := hI; exact h5
  have hnb : ¬ SOwn gS w bl := hli.2 bl ol rfl
  have hglt : gS < w.heap.size := lt_of_cell hc
  have hplt : pS < w.heap.size := lt_of_cell hpS
  have hlt3 : bl < w.heap.size := lt_of_cell hcl
  have hgB : some gS ≠ Value.ownBlock (.slice B m c) := by obtain ⟨us, h1, _⟩ := hI; exact fun e => h1.rowNe hvs e.symm
  have hnp2 : some pS ≠ Value.ownBlock (.slice B m c) := fun e => hnp (.inr ⟨j, _, hc, e.symm⟩)
  have hnb2 : some bl ≠ Value.ownBlock (.slice B m c) := fun e => hnb (.inr ⟨j, _, hc, e.symm⟩)
  have HKS : Hid (∀ W, Kept (SOwn gS) w W → W.cell? ⟨pS, 0, none⟩ = some (.slice (some ⟨gS, 0, none⟩) n n) ∧ W.cell? ⟨bl, ol, none⟩ = some (.int .i64 (j : Int))) := Lib.hid fun W h => ⟨(World.cell?_of_block (h.block pS hplt hnp)).trans hpS, (World.cell?_of_block (h.block bl hlt3 hnb)).trans hcl⟩
  have hBS : Hid (∀ W, Below w.heap.size w W → W.cell? ⟨pS, 0, none⟩ = some (.slice (some ⟨gS, 0, none⟩) n n) ∧ W.cell? ⟨bl, ol, none⟩ = some (.int .i64 (j : Int))) := Lib.hid fun W h => ⟨(h.cell hplt).trans hpS, (h.cell hlt3).trans hcl⟩
  have HGS : Hid (∀ w1 w' : World, Below w.heap.size w w1 → w1.grownBy w' (Value.ownBlock (.slice B m c)) → w'.cell? ⟨pS, 0, none⟩ = some (.slice (some ⟨gS, 0, none⟩) n n) ∧ w'.cell? ⟨bl, ol, none⟩ = some (.int .i64 (j : Int))) := Lib.hid fun w1 w' h k => ⟨((World.cell?_of_block (k.block pS (Nat.lt_of_lt_of_le hplt h.size) hnp2)).trans (h.cell hplt)).trans hpS, ((World.cell?_of_block (k.block bl (Nat.lt_of_lt_of_le hlt3 h.size) hnb2)).trans (h.cell hlt3)).trans hcl⟩
  have R5 : Hid (∀ w1 w' : World, Below w.heap.size w w1 → w1.grownBy w' (Value.ownBlock (.slice B m c)) → w'.frozen? ⟨gS, j, none⟩ = false ∧ w'.cell? ⟨gS, j, none⟩ = some (.slice B m c)) := Lib.hid fun w1 w' h k => by
    have e : w'.heap[gS]? = w.heap[gS]? := (k.block gS (Nat.lt_of_lt_of_le hglt h.size) hgB).trans (h.block gS hglt)
    exact ⟨by simp only [World.frozen?, e] at hfz ⊢; exact hfz, (World.cell?_of_block e).trans hc⟩
  have HCB : Hid (∀ W, Below w.heap.size w W → W.cell? ⟨gS, j, none⟩ = some (.slice B m c)) := Lib.hid fun W h => (h.cell hglt).trans hc
  have HP := Lib.hid (fun (w1 w' : World) (b' c' : Nat) (hb : Below w.heap.size w w1) (hg : w1.grownBy w' (Value.ownBlock (.slice B m c))) (hr : RowV w' base (.slice (some ⟨b', 0, none⟩) (vs.length + 1) c') (vs ++ [.slice (some ⟨bl, ol, none⟩) n ca])) (hbl : Value.ownBlock (.slice B m c) = some b' ∨ b' = w1.heap.size) => SetsI.push hn hI hl0 hl hj.symm hli hc hvs hb hg hr hbl)
  obtain ⟨wA, hwA⟩ : ∃ z, z = w.alloc (.cells #[.slice (some ⟨bl, ol, none⟩) n ca] 29) := ⟨_, rfl⟩
  have BA : Below w.heap.size w wA := by rw [hwA]; exact below_alloc _ _
  have R1 : Hid (∀ W : World, W.heap = wA.heap → RowV W base (.slice B m c) vs) := Lib.hid fun W e => by
    have h1 := hvs.below BA
    unfold RowV World.ownsRow at h1 ⊢
    rw [e]; exact h1
  have R2 : Hid (∀ W : World, W.heap = wA.heap → W.cell? ⟨w.heap.size, 0, none⟩ = some (.slice (some ⟨bl, ol, none⟩) n ca)) := Lib.hid fun W e => by
    rw [World.cell?_of_block (congrArg (fun h => h[w.heap.size]?) e), hwA, cell_of_row _ _ 0 _ _ _ (heap_alloc_new w _)]; rfl
  have R4 : Hid (base ≤ wA.heap.size) := Lib.hid (Nat.le_trans hbase BA.size)
  have hcA : wA.cell? ⟨gS, j, none⟩ = some (.slice B m c) := HCB.out _ BA
  rw [hwA] at R1 R2 R4 hcA
  have j0 : (0 : Int) ≤ (j : Int) := by omega
  have jn : (j : Int) < (n : Int) := by omega
  have n0 : (0 : Int) < (n : Int) := by omega
  clear hli hI hIN hbl hfz hvs hj BA hwA hnp hnb hnp2 hnb2 hgB hglt hplt hlt3
  go_enter Tryd.func62, Tryd.ntmps62
  go_wp2_with fail
  refine wp_region_held_drew (S := fun W => W.cell? ⟨pS, 0, none⟩ = some (.slice (some ⟨gS, 0, none⟩) n n) ∧ W.cell? ⟨bl, ol, none⟩ = some (.int .i64 (j : Int))) (by kernel_rfl) (⟨hpS, hcl⟩) (fun hS => ?_)
  refine wpAnyH_take (i := 0) (oi := { dst := some 4, op := Op.load 49 (Operand.tmp 1), type := 49, pos := "mate.go:90", after := #[], guard := none }) (v := .slice (some ⟨gS, 0, none⟩) n n) rfl (by kernel_rfl) (by kernel_rfl) (by kernel_rfl) (fun _ _ _ h => h) (Or.inl ⟨by kernel_rfl, fun W hSW => by have h1 := hSW.1; go_simp⟩) hS ?_
  try simp only [Act.put, List.setIfInBounds_toArray, List.set_cons_zero, List.set_cons_succ]
  refine wpAnyH_take (i := 1) (oi := { dst := some 5, op := Op.move (Operand.tmp 0), type := 29, pos := "mate.go:90", after := #[], guard := none }) (v := .slice (some ⟨bl, ol, none⟩) n ca) rfl (by kernel_rfl) (by kernel_rfl) (by kernel_rfl) (fun _ _ _ h => h) (Or.inl ⟨by kernel_rfl, fun W hSW => by kernel_rfl⟩) hS ?_
  try simp only [Act.put, List.setIfInBounds_toArray, List.set_cons_zero, List.set_cons_succ]
  refine wpAnyH_take (i := 2) (oi := { dst := some 6, op := Op.indexAddr 29 (Operand.tmp 5) (Operand.const (Value.int IntKind.i64 0)), type := 0, pos := "mate.go:90", after := #[{ on := 1, ground := Ground.data }], guard := none }) (v := .pointer (some ⟨bl, ol, none⟩)) rfl (by kernel_rfl) (by kernel_rfl) (by kernel_rfl) (fun _ _ _ h => h) (Or.inl ⟨by kernel_rfl, fun W hSW => by go_simp⟩) hS ?_
  try simp only [Act.put, List.setIfInBounds_toArray, List.set_cons_zero, List.set_cons_succ]
  refine wpAnyH_take (i := 3) (oi := { dst := some 7, op := Op.load 3 (Operand.tmp 6), type := 3, pos := "mate.go:90", after := #[{ on := 2, ground := Ground.data }], guard := none }) (v := .int .i64 (j : Int)) rfl (by kernel_rfl) (by kernel_rfl) (by kernel_rfl) (fun _ _ _ h => h) (Or.inl ⟨by kernel_rfl, fun W hSW => by have h1 := hSW.2; go_simp⟩) hS ?_
  try simp only [Act.put, List.setIfInBounds_toArray, List.set_cons_zero, List.set_cons_succ]
  refine wpAnyH_take (i := 4) (oi := { dst := some 8, op := Op.load 49 (Operand.tmp 1), type := 49, pos := "mate.go:90", after := #[], guard := none }) (v := .slice (some ⟨gS, 0, none⟩) n n) rfl (by kernel_rfl) (by kernel_rfl) (by kernel_rfl) (fun _ _ _ h => h) (Or.inl ⟨by kernel_rfl, fun W hSW => by have h1 := hSW.1; go_simp⟩) hS ?_
  try simp only [Act.put, List.setIfInBounds_toArray, List.set_cons_zero, List.set_cons_succ]
  refine wpAnyH_take (i := 5) (oi := { dst := some 9, op := Op.move (Operand.tmp 0), type := 29, pos := "mate.go:90", after := #[], guard := none }) (v := .slice (some ⟨bl, ol, none⟩) n ca) rfl (by kernel_rfl) (by kernel_rfl) (by kernel_rfl) (fun _ _ _ h => h) (Or.inl ⟨by kernel_rfl, fun W hSW => by kernel_rfl⟩) hS ?_
  try simp only [Act.put, List.setIfInBounds_toArray, List.set_cons_zero, List.set_cons_succ]
  refine wpAnyH_take (i := 6) (oi := { dst := some 10, op := Op.indexAddr 29 (Operand.tmp 9) (Operand.const (Value.int IntKind.i64 0)), type := 0, pos := "mate.go:90", after := #[{ on := 5, ground := Ground.data }], guard := none }) (v := .pointer (some ⟨bl, ol, none⟩)) rfl (by kernel_rfl) (by kernel_rfl) (by kernel_rfl) (fun _ _ _ h => h) (Or.inl ⟨by kernel_rfl, fun W hSW => by go_simp⟩) hS ?_
  try simp only [Act.put, List.setIfInBounds_toArray, List.set_cons_zero, List.set_cons_succ]
  refine wpAnyH_take (i := 7) (oi := { dst := some 11, op := Op.load 3 (Operand.tmp 10), type := 3, pos := "mate.go:90", after := #[{ on := 6, ground := Ground.data }], guard := none }) (v := .int .i64 (j : Int)) rfl (by kernel_rfl) (by kernel_rfl) (by kernel_rfl) (fun _ _ _ h => h) (Or.inl ⟨by kernel_rfl, fun W hSW => by have h1 := hSW.2; go_simp⟩) hS ?_
  try simp only [Act.put, List.setIfInBounds_toArray, List.set_cons_zero, List.set_cons_succ]
  refine wpAnyH_take (i := 8) (oi := { dst := some 12, op := Op.indexAddr 49 (Operand.tmp 8) (Operand.tmp 11), type := 0, pos := "mate.go:90", after := #[{ on := 4, ground := Ground.data }, { on := 7, ground := Ground.data }], guard := none }) (v := .pointer (some ⟨gS, j, none⟩)) rfl (by kernel_rfl) (by kernel_rfl) (by kernel_rfl) (fun _ _ _ h => h) (Or.inl ⟨by kernel_rfl, fun W hSW => by go_simp⟩) hS ?_
  try simp only [Act.put, List.setIfInBounds_toArray, List.set_cons_zero, List.set_cons_succ]
  refine wpAnyH_take (i := 10) (oi := { dst := some 14, op := Op.move (Operand.tmp 0), type := 29, pos := "mate.go:90", after := #[], guard := none }) (v := .slice (some ⟨bl, ol, none⟩) n ca) rfl (by kernel_rfl) (by kernel_rfl) (by kernel_rfl) (fun _ _ _ h => h) (Or.inl ⟨by kernel_rfl, fun W hSW => by kernel_rfl⟩) hS ?_
  try simp only [Act.put, List.setIfInBounds_toArray, List.set_cons_zero, List.set_cons_succ]
  refine wpAnyH_ready (rs := [9, 11]) (by kernel_rfl) (by simp) ?_
  refine AllReadyH.cons (o := { dst := some 13, op := Op.load 22 (Operand.tmp 12), type := 22, pos := "mate.go:90", after := #[{ on := 8, ground := Ground.data }], guard := none }) rfl (fun K hK => ?_) (AllReadyH.cons (o := { dst := some 15, op := Op.buildSlice 22 1 #[(0, Operand.tmp 14)], type := 22, pos := "mate.go:90", after := #[{ on := 10, ground := Ground.data }], guard := none }) rfl (fun K hK => ?_) AllReadyH.nil)
  · skip
    go_simp
    refine hK.out _ _ ((by first | exact hBS.out _ (below_alloc w _) | exact hBS.out _ (below_alloc w _).drew | exact hBS.out _ (Below.refl _ _).drew)) (fun hS => ?_)
    clear hK K
    try simp only [Act.put, List.setIfInBounds_toArray, List.set_cons_zero, List.set_cons_succ]
    refine wpAnyH_ready (rs := [11]) (by kernel_rfl) (by simp) ?_
    refine AllReadyH.cons (o := { dst := some 15, op := Op.buildSlice 22 1 #[(0, Operand.tmp 14)], type := 22, pos := "mate.go:90", after := #[{ on := 10, ground := Ground.data }], guard := none }) rfl (fun K hK => ?_) AllReadyH.nil
    go_simp
    refine hK.out _ _ ((by first | exact hBS.out _ (below_alloc w _) | exact hBS.out _ (below_alloc w _).drew | exact hBS.out _ (Below.refl _ _).drew)) (fun hS => ?_)
    clear hK K
    try simp only [Act.put, List.setIfInBounds_toArray, List.set_cons_zero, List.set_cons_succ]
    refine wpAnyH_ready (rs := [12]) (by kernel_rfl) (by simp) ?_
    refine AllReadyH.cons (o := { dst := some 16, op := Op.call { callee := Callee.builtin Builtin.append, args := #[Operand.tmp 13, Operand.tmp 15], argTypes := #[22, 22] }, type := 22, pos := "mate.go:90", after := #[{ on := 9, ground := Ground.data }, { on := 11, ground := Ground.data }], guard := none }) rfl (fun K hK => ?_) AllReadyH.nil
    refine step_pushW (by rfl) _ _ (by rfl) base (.slice B m c) vs (by rfl) (R1.out _ (by rfl)) w.heap.size 1 (some ⟨bl, ol, none⟩) n ca (by rfl) (R2.out _ (by rfl)) hvm R4.out ?_
    intro b' c' w' hr' hg' hb'
    obtain ⟨HP1, HP2⟩ := HP.out _ _ _ _ (by first | exact (below_alloc w _).drew | exact below_alloc w _) hg' hr' hb'
    rw [hvl] at HP1 HP2
    have HQ1 := Lib.hid HP1
    have HQ2 := Lib.hid HP2
    have hfz' := R5.out _ _ (by first | exact (below_alloc w _).drew | exact below_alloc w _) hg'
    have hS4 := HGS.out _ _ (by first | exact (below_alloc w _).drew | exact below_alloc w _) hg'
    clear HP1 HP2 hg' hr' hb'
    refine hK.out _ _ (hS4) (fun hS => ?_)
    clear hK K
    try simp only [Act.put, List.setIfInBounds_toArray, List.set_cons_zero, List.set_cons_succ]
    refine wpAnyH_ready (rs := [13]) (by kernel_rfl) (by simp) ?_
    refine AllReadyH.cons (o := { dst := some 17, op := Op.indexAddr 49 (Operand.tmp 4) (Operand.tmp 7), type := 0, pos := "mate.go:90", after := #[{ on := 0, ground := Ground.data }, { on := 3, ground := Ground.data }, { on := 0, ground := Ground.phase }, { on := 1, ground := Ground.phase }, { on := 2, ground := Ground.phase }, { on := 3, ground := Ground.phase }, { on := 4, ground := Ground.phase }, { on := 5, ground := Ground.phase }, { on := 6, ground := Ground.phase }, { on := 7, ground := Ground.phase }, { on := 8, ground := Ground.phase }, { on := 9, ground := Ground.phase }, { on := 10, ground := Ground.phase }, { on := 11, ground := Ground.phase }, { on := 12, ground := Ground.phase }], guard := none }) rfl (fun K hK => ?_) AllReadyH.nil
    go_simp
    refine hK.out _ _ (hS4) (fun hS => ?_)
    clear hK K
    try simp only [Act.put, List.setIfInBounds_toArray, List.set_cons_zero, List.set_cons_succ]
    refine wpAnyH_ready (rs := [14]) (by kernel_rfl) (by simp) ?_
    refine AllReadyH.cons (o := { dst := none, op := Op.store 22 (Operand.tmp 17) (Operand.tmp 16), type := 0, pos := "mate.go:90", after := #[{ on := 13, ground := Ground.data }, { on := 12, ground := Ground.data }, { on := 12, ground := Ground.chain }, { on := 0, ground := Ground.phase }, { on := 1, ground := Ground.phase }, { on := 2, ground := Ground.phase }, { on := 3, ground := Ground.phase }, { on := 4, ground := Ground.phase }, { on := 5, ground := Ground.phase }, { on := 6, ground := Ground.phase }, { on := 7, ground := Ground.phase }, { on := 8, ground := Ground.phase }, { on := 9, ground := Ground.phase }, { on := 10, ground := Ground.phase }, { on := 11, ground := Ground.phase }, { on := 12, ground := Ground.phase }], guard := none }) rfl (fun K hK => ?_) AllReadyH.nil
    go_simp
    refine hK.out _ _ (HKS.out _ HQ2.out) (fun hS => ?_)
    clear hK K
    try simp only [Act.put, List.setIfInBounds_toArray, List.set_cons_zero, List.set_cons_succ]
    refine wpAnyH_done (by kernel_rfl) ?_ _
    go_wp2
    go_ret
    exact ⟨rfl, HQ1.out, HQ2.out⟩
  · skip
    go_simp
    refine hK.out _ _ ((by first | exact hBS.out _ (below_alloc w _) | exact hBS.out _ (below_alloc w _).drew | exact hBS.out _ (Below.refl _ _).drew)) (fun hS => ?_)
    clear hK K
    try simp only [Act.put, List.setIfInBounds_toArray, List.set_cons_zero, List.set_cons_succ]
    refine wpAnyH_ready (rs := [9]) (by kernel_rfl) (by simp) ?_
    refine AllReadyH.cons (o := { dst := some 13, op := Op.load 22 (Operand.tmp 12), type := 22, pos := "mate.go:90", after := #[{ on := 8, ground := Ground.data }], guard := none }) rfl (fun K hK => ?_) AllReadyH.nil
    go_simp
    refine hK.out _ _ ((by first | exact hBS.out _ (below_alloc w _) | exact hBS.out _ (below_alloc w _).drew | exact hBS.out _ (Below.refl _ _).drew)) (fun hS => ?_)
    clear hK K
    try simp only [Act.put, List.setIfInBounds_toArray, List.set_cons_zero, List.set_cons_succ]
    refine wpAnyH_ready (rs := [12]) (by kernel_rfl) (by simp) ?_
    refine AllReadyH.cons (o := { dst := some 16, op := Op.call { callee := Callee.builtin Builtin.append, args := #[Operand.tmp 13, Operand.tmp 15], argTypes := #[22, 22] }, type := 22, pos := "mate.go:90", after := #[{ on := 9, ground := Ground.data }, { on := 11, ground := Ground.data }], guard := none }) rfl (fun K hK => ?_) AllReadyH.nil
    refine step_pushW (by rfl) _ _ (by rfl) base (.slice B m c) vs (by rfl) (R1.out _ (by rfl)) w.heap.size 1 (some ⟨bl, ol, none⟩) n ca (by rfl) (R2.out _ (by rfl)) hvm R4.out ?_
    intro b' c' w' hr' hg' hb'
    obtain ⟨HP1, HP2⟩ := HP.out _ _ _ _ (by first | exact (below_alloc w _).drew | exact below_alloc w _) hg' hr' hb'
    rw [hvl] at HP1 HP2
    have HQ1 := Lib.hid HP1
    have HQ2 := Lib.hid HP2
    have hfz' := R5.out _ _ (by first | exact (below_alloc w _).drew | exact below_alloc w _) hg'
    have hS4 := HGS.out _ _ (by first | exact (below_alloc w _).drew | exact below_alloc w _) hg'
    clear HP1 HP2 hg' hr' hb'
    refine hK.out _ _ (hS4) (fun hS => ?_)
    clear hK K
    try simp only [Act.put, List.setIfInBounds_toArray, List.set_cons_zero, List.set_cons_succ]
    refine wpAnyH_ready (rs := [13]) (by kernel_rfl) (by simp) ?_
    refine AllReadyH.cons (o := { dst := some 17, op := Op.indexAddr 49 (Operand.tmp 4) (Operand.tmp 7), type := 0, pos := "mate.go:90", after := #[{ on := 0, ground := Ground.data }, { on := 3, ground := Ground.data }, { on := 0, ground := Ground.phase }, { on := 1, ground := Ground.phase }, { on := 2, ground := Ground.phase }, { on := 3, ground := Ground.phase }, { on := 4, ground := Ground.phase }, { on := 5, ground := Ground.phase }, { on := 6, ground := Ground.phase }, { on := 7, ground := Ground.phase }, { on := 8, ground := Ground.phase }, { on := 9, ground := Ground.phase }, { on := 10, ground := Ground.phase }, { on := 11, ground := Ground.phase }, { on := 12, ground := Ground.phase }], guard := none }) rfl (fun K hK => ?_) AllReadyH.nil
    go_simp
    refine hK.out _ _ (hS4) (fun hS => ?_)
    clear hK K
    try simp only [Act.put, List.setIfInBounds_toArray, List.set_cons_zero, List.set_cons_succ]
    refine wpAnyH_ready (rs := [14]) (by kernel_rfl) (by simp) ?_
    refine AllReadyH.cons (o := { dst := none, op := Op.store 22 (Operand.tmp 17) (Operand.tmp 16), type := 0, pos := "mate.go:90", after := #[{ on := 13, ground := Ground.data }, { on := 12, ground := Ground.data }, { on := 12, ground := Ground.chain }, { on := 0, ground := Ground.phase }, { on := 1, ground := Ground.phase }, { on := 2, ground := Ground.phase }, { on := 3, ground := Ground.phase }, { on := 4, ground := Ground.phase }, { on := 5, ground := Ground.phase }, { on := 6, ground := Ground.phase }, { on := 7, ground := Ground.phase }, { on := 8, ground := Ground.phase }, { on := 9, ground := Ground.phase }, { on := 10, ground := Ground.phase }, { on := 11, ground := Ground.phase }, { on := 12, ground := Ground.phase }], guard := none }) rfl (fun K hK => ?_) AllReadyH.nil
    go_simp
    refine hK.out _ _ (HKS.out _ HQ2.out) (fun hS => ?_)
    clear hK K
    try simp only [Act.put, List.setIfInBounds_toArray, List.set_cons_zero, List.set_cons_succ]
    refine wpAnyH_done (by kernel_rfl) ?_ _
    go_wp2
    go_ret
    exact ⟨rfl, HQ1.out, HQ2.out⟩
/-- The transversals come to lie in the sets. -/
theorem visit62 (n base pS gS : Nat) (hn : 0 < n) (hn7 : n ≤ 7) : Visit n base 62 #[.pointer (some ⟨pS, 0, none⟩)] false (SOwn gS) (SetsI n base pS gS) where
  enter := enter62
  keep := fun done w w' h hb => SetsI.keep hn h hb
  lt := fun done w i h hi => h.lt hi
  call := fun done l A c w h hd hl hb hi hno => f62_any n base pS gS done A c l w hn hn7 h hd hl (hb 0 hn) ⟨by rw [hl]; exact hi, hno⟩
end Go.Proofs.YtiodednhadnekaaDoor
