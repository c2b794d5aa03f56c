/- Walks: what Corners does at each order. -/
import Derived.Test.YtpehhbiodmgjeaaW44
import Derived.Deep.RegionLaw
namespace Go.Proofs.Ytpehhbiodmgjeaa
open Go.RowKit
/-- What Corners knows of its costs. -/
structure CosI (w0 : World) (pC p n len c : Nat) (A : Option Addr) (xs : List Int) : Prop where
  box : w0.cell? ⟨pC, 0, none⟩ = some (.pointer (some ⟨p, 0, none⟩))
  cost : Costs w0 p n A len c
  ints : Ints w0 A len xs
  n6 : n ≤ 6
  len : len = 2 ^ n
  bnd : Bnd xs
set_option maxRecDepth 100000 in
set_option maxHeartbeats 8000000 in
/-- share.Corners$1 -/
theorem f75_any (w0 : World) (B pC p n len c : Nat) (A : Option Addr) (xs : List Int) (H : CosI w0 pC p n len c A xs) (hB : B = w0.heap.size) (T : List (List Int)) (Ao : Option Addr) (m d : Nat) (os : List Int) (w : World) (hb0 : Below B w0 w) (hT : T.length ≤ 999999) (hst : St B T w) (ho : Ints w Ao m os)
    (hr : ∀ j, j < m → 0 ≤ os.getD j 0 ∧ os.getD j 0 < n) :
    Calls Try.prog 75 #[.slice Ao m d, .pointer (some ⟨B, 0, none⟩), .pointer (some ⟨pC, 0, none⟩)] w fun e w' => e = .returned (.tuple #[]) ∧ St B (T ++ [greedyL n xs (os.map Int.toNat)]) w' ∧ KeptT B w w' := by
  obtain ⟨v, vs, hbx, hrv, hrs, hnr⟩ := hst
  have hBl := lt_of_block hbx
  subst hB
  have HPL : Hid (pC < w0.heap.size) := Lib.hid (lt_of_cell H.box)
  have hvl : Hid (vs.length ≤ 1000000) := Lib.hid (by rw [hrs.1]; omega)
  have hn6 := H.n6
  have HGL : Hid ((greedyL n xs (os.map Int.toNat)).length = n) := Lib.hid (greedyL_len _ _ _)
  have HC : Hid (∀ W, Below w.heap.size w W → W.cell? ⟨pC, 0, none⟩ = some (.pointer (some ⟨p, 0, none⟩))) := Lib.hid fun W hW => by
    have h1 := H.box
    have h2 := (hb0.cell (lt_of_cell h1)).trans h1
    exact (hW.cell (lt_of_cell h2)).trans h2
  have K49 : Hid (∀ W, Below w.heap.size w W → Calls Try.prog 49 #[.pointer (some ⟨p, 0, none⟩), .slice Ao m d] W fun e w' =>
      e = .returned (.slice (some ⟨W.heap.size, 0, none⟩) n n) ∧ Own w' W.heap.size (greedyL n xs (os.map Int.toNat)) ∧ Below W.heap.size W w') := Lib.hid fun W hW =>
    f49_any p A Ao n len c m d xs os W ((H.cost.below hb0).below hW) ((H.ints.below hb0).below hW) (ho.below hW) H.n6 H.len (fun j => by have := H.bnd j; omega) hr
  have HBX := Lib.hid hbx
  have HRV := Lib.hid hrv
  have HRS := Lib.hid hrs
  have HNR := Lib.hid hnr
  have hcv := hbx.cell
  have hfz : Hid (∀ W : World, Box W w0.heap.size v 33 → W.frozen? ⟨w0.heap.size, 0, none⟩ = false ∧ W.cell? ⟨w0.heap.size, 0, none⟩ = some v) := Lib.hid fun W h => ⟨by unfold Box at h; simp [World.frozen?, h], h.cell⟩
  generalize greedyL n xs (os.map Int.toNat) = G at *
  have hPS : Hid (∀ (W : World) (u : Value), W.cell? ⟨pC, 0, none⟩ = some (.pointer (some ⟨p, 0, none⟩)) → (W.setCell ⟨w0.heap.size, 0, none⟩ u).cell? ⟨pC, 0, none⟩ = some (.pointer (some ⟨p, 0, none⟩))) := Lib.hid fun W u h => (World.cell?_of_block (Below.heap_setCell W ⟨w0.heap.size, 0, none⟩ u pC (by have := HPL.out; simp only; omega))).trans h
  have hPC : Hid (∀ W w' : World, Below w.heap.size w W → W.grownBy w' v.ownBlock → w'.cell? ⟨pC, 0, none⟩ = some (.pointer (some ⟨p, 0, none⟩))) := Lib.hid fun W w' hW hg => by
    have k1 := KeptT.grown (HRV.out.below hW) hg
    have h1 := HC.out W hW
    exact (World.cell?_of_block (k1.block pC (lt_of_cell h1) (.inl HPL.out))).trans h1
  clear hbx hrv hrs hnr H hr ho hb0
  go_enter Try.func75, Try.ntmps75
  go_wp2_with fail
  refine wp_region_held_drew (S := fun W => W.cell? ⟨pC, 0, none⟩ = some (.pointer (some ⟨p, 0, none⟩))) (by kernel_rfl) (HC.out _ (by first | exact Below.refl _ _ | exact (Below.refl _ _).drew)) (fun hS => ?_)
  refine wpAnyH_take (i := 1) (oi := { dst := some 5, op := Op.load 52 (Operand.tmp 2), type := 52, pos := "share.go:156", after := #[], guard := none }) (v := .pointer (some ⟨p, 0, none⟩)) rfl (by kernel_rfl) (by kernel_rfl) (by kernel_rfl) (fun _ _ _ h => h) (Or.inl ⟨by kernel_rfl, fun W hSW => by go_simp⟩) hS ?_
  try simp only [Act.put, List.setIfInBounds_toArray, List.set_cons_zero, List.set_cons_succ]
  refine wpAnyH_take (i := 2) (oi := { dst := some 6, op := Op.move (Operand.tmp 0), type := 22, pos := "share.go:156", after := #[], guard := none }) (v := .slice Ao m d) rfl (by kernel_rfl) (by kernel_rfl) (by kernel_rfl) (fun _ _ _ h => h) (Or.inl ⟨by kernel_rfl, fun W hSW => by kernel_rfl⟩) hS ?_
  try simp only [Act.put, List.setIfInBounds_toArray, List.set_cons_zero, List.set_cons_succ]
  refine wpAnyH_ready (rs := [0, 3]) (by kernel_rfl) (by simp) ?_
  refine AllReadyH.cons (o := { dst := some 4, op := Op.load 33 (Operand.tmp 1), type := 33, pos := "share.go:156", after := #[], guard := none }) rfl (fun K hK => ?_) (AllReadyH.cons (o := { dst := some 7, op := Op.call { callee := Callee.value (Operand.func 49), args := #[Operand.tmp 5, Operand.tmp 6], argTypes := #[52, 22] }, type := 22, pos := "share.go:156", after := #[{ on := 1, ground := Ground.data }, { on := 2, ground := Ground.data }], guard := none }) rfl (fun K hK => ?_) AllReadyH.nil)
  · skip
    go_simp
    refine hK.out _ _ (hS) (fun hS => ?_)
    clear hK K
    try simp only [Act.put, List.setIfInBounds_toArray, List.set_cons_zero, List.set_cons_succ]
    refine wpAnyH_ready (rs := [3]) (by kernel_rfl) (by simp) ?_
    refine AllReadyH.cons (o := { dst := some 7, op := Op.call { callee := Callee.value (Operand.func 49), args := #[Operand.tmp 5, Operand.tmp 6], argTypes := #[52, 22] }, type := 22, pos := "share.go:156", after := #[{ on := 1, ground := Ground.data }, { on := 2, ground := Ground.data }], guard := none }) rfl (fun K hK => ?_) AllReadyH.nil
    go_simp
    refine (K49.out _ (by first | exact Below.refl _ _ | exact (Below.refl _ _).drew)).mono ?_
    rintro e w4 ⟨rfl, hown, hb4⟩
    have hq1 : Below w.heap.size w w4 := (by first | exact hb4 | exact below_step (a := w) (b := w.drew) (below_drewN (Below.refl _ _) 1) hb4)
    have HW : Hid (Own w4 w.heap.size G) := Lib.hid (by first | exact hown)
    have HQ1 := Lib.hid hq1
    have HQ5 : Hid (Below w.heap.size w (w4.alloc (.cells #[.slice (some ⟨w.heap.size, 0, none⟩) n n] 22))) := Lib.hid (hq1.alloc hq1.size _)
    have hf1 := hfz.out _ (HBX.out.below hq1)
    have hf5 := hfz.out _ (HBX.out.below HQ5.out)
    obtain ⟨hf1a, hf1b⟩ := hf1
    obtain ⟨hf5a, hf5b⟩ := hf5
    clear hown hb4 hq1
    refine hK.out _ _ (HC.out _ HQ1.out) (fun hS => ?_)
    clear hK K
    try simp only [Act.put, List.setIfInBounds_toArray, List.set_cons_zero, List.set_cons_succ]
    refine wpAnyH_ready (rs := [4]) (by kernel_rfl) (by simp) ?_
    refine AllReadyH.cons (o := { dst := some 8, op := Op.buildSlice 33 1 #[(0, Operand.tmp 7)], type := 33, pos := "share.go:156", after := #[{ on := 3, ground := Ground.data }], guard := none }) rfl (fun K hK => ?_) AllReadyH.nil
    go_simp
    refine hK.out _ _ (HC.out _ (by first | exact HQ5.out | exact HQ5.out.drew)) (fun hS => ?_)
    clear hK K
    try simp only [Act.put, List.setIfInBounds_toArray, List.set_cons_zero, List.set_cons_succ]
    refine wpAnyH_ready (rs := [5]) (by kernel_rfl) (by simp) ?_
    refine AllReadyH.cons (o := { dst := some 9, op := Op.call { callee := Callee.builtin Builtin.append, args := #[Operand.tmp 4, Operand.tmp 8], argTypes := #[33, 33] }, type := 33, pos := "share.go:156", after := #[{ on := 0, ground := Ground.data }, { on := 4, ground := Ground.data }, { on := 3, ground := Ground.chain }], guard := none }) rfl (fun K hK => ?_) AllReadyH.nil
    refine step_pushV (by rfl) _ _ (by rfl) w0.heap.size v vs (by rfl) (HRV.out.below (by first | exact HQ5.out | exact HQ5.out.drew)) w4.heap.size 1 (some ⟨w.heap.size, 0, none⟩) n n (by rfl) ((cell_new w4 #[.slice (some ⟨w.heap.size, 0, none⟩) n n] 22 0).trans rfl) hvl.out (Nat.le_trans (Nat.le_of_lt hBl) (Below.size (by first | exact HQ5.out | exact HQ5.out.drew))) ?_
    intro v2 w' hr' hg' _
    have hrs5 := (HRS.out.below HQ5.out).append (Rows3.one (w := w4.alloc (.cells #[.slice (some ⟨w.heap.size, 0, none⟩) n n] 22)) ((HW.out.ints' HGL.out (by omega)).below (below_alloc w4 _)) (Nat.le_refl _) (fun h => by cases h) (HW.out.own3.below (below_alloc w4 _)))
    have hnr5 := (HNR.out.below HQ5.out).push (s := w.heap.size) (v := .slice (some ⟨w.heap.size, 0, none⟩) n n) (l := G) ⟨w.heap.size, Nat.le_of_lt hBl, by rw [HGL.out], HW.out.below' (below_alloc w4 _), by rw [HGL.out]; omega⟩ HNR.out.lt (Nat.le_refl _)
    obtain ⟨p1, p2, p3⟩ := St.push (HBX.out.below HQ5.out) (HRV.out.below HQ5.out) (by first | exact hg' | exact ⟨hg'.os, hg'.tape, hg'.output, hg'.size, hg'.block⟩) hr' hrs5 hnr5
    have HP1 := Lib.hid p1
    have HP2 : Hid (KeptT w0.heap.size w _) := Lib.hid ((KeptT.of HQ5.out).trans p2)
    obtain ⟨hz1, hz2⟩ := hfz.out _ p3
    have HC9 : Hid (w'.cell? ⟨pC, 0, none⟩ = some (.pointer (some ⟨p, 0, none⟩))) := Lib.hid (hPC.out _ _ (by first | exact HQ5.out | exact HQ5.out.drew) hg')
    obtain ⟨A2, c2, e2, _⟩ := hr'.form
    generalize (vs ++ [Value.slice (some ⟨w.heap.size, 0, none⟩) n n]).length = len2 at e2
    subst e2
    clear p1 p2 p3 hg' hr' hrs5 hnr5
    refine hK.out _ _ (HC9.out) (fun hS => ?_)
    clear hK K
    try simp only [Act.put, List.setIfInBounds_toArray, List.set_cons_zero, List.set_cons_succ]
    refine wpAnyH_ready (rs := [6]) (by kernel_rfl) (by simp) ?_
    refine AllReadyH.cons (o := { dst := none, op := Op.store 33 (Operand.tmp 1) (Operand.tmp 9), type := 0, pos := "share.go:156", after := #[{ on := 5, ground := Ground.data }, { on := 5, ground := Ground.chain }, { on := 0, ground := Ground.phase }, { on := 1, ground := Ground.phase }, { on := 2, ground := Ground.phase }, { on := 3, ground := Ground.phase }, { on := 4, ground := Ground.phase }, { on := 5, ground := Ground.phase }], guard := none }) rfl (fun K hK => ?_) AllReadyH.nil
    go_simp
    refine hK.out _ _ (hPS.out _ _ HC9.out) (fun hS => ?_)
    clear hK K
    try simp only [Act.put, List.setIfInBounds_toArray, List.set_cons_zero, List.set_cons_succ]
    refine wpAnyH_done (by kernel_rfl) ?_ _
    go_wp2
    first | go_end0 | ((try simp only [Exit.inBlock, Exit.then]); refine bodyPost_ret (results_none rfl _ _ _) rfl ?_)
    exact ⟨rfl, HP1.out, HP2.out⟩
  · skip
    go_simp
    refine (K49.out _ (by first | exact Below.refl _ _ | exact (Below.refl _ _).drew)).mono ?_
    rintro e w4 ⟨rfl, hown, hb4⟩
    have hq1 : Below w.heap.size w w4 := (by first | exact hb4 | exact below_step (a := w) (b := w.drew) (below_drewN (Below.refl _ _) 1) hb4)
    have HW : Hid (Own w4 w.heap.size G) := Lib.hid (by first | exact hown)
    have HQ1 := Lib.hid hq1
    have HQ5 : Hid (Below w.heap.size w (w4.alloc (.cells #[.slice (some ⟨w.heap.size, 0, none⟩) n n] 22))) := Lib.hid (hq1.alloc hq1.size _)
    have hf1 := hfz.out _ (HBX.out.below hq1)
    have hf5 := hfz.out _ (HBX.out.below HQ5.out)
    obtain ⟨hf1a, hf1b⟩ := hf1
    obtain ⟨hf5a, hf5b⟩ := hf5
    clear hown hb4 hq1
    refine hK.out _ _ (HC.out _ HQ1.out) (fun hS => ?_)
    clear hK K
    try simp only [Act.put, List.setIfInBounds_toArray, List.set_cons_zero, List.set_cons_succ]
    refine wpAnyH_ready (rs := [0, 4]) (by kernel_rfl) (by simp) ?_
    refine AllReadyH.cons (o := { dst := some 4, op := Op.load 33 (Operand.tmp 1), type := 33, pos := "share.go:156", after := #[], guard := none }) rfl (fun K hK => ?_) (AllReadyH.cons (o := { dst := some 8, op := Op.buildSlice 33 1 #[(0, Operand.tmp 7)], type := 33, pos := "share.go:156", after := #[{ on := 3, ground := Ground.data }], guard := none }) rfl (fun K hK => ?_) AllReadyH.nil)
    · skip
      go_simp
      refine hK.out _ _ (hS) (fun hS => ?_)
      clear hK K
      try simp only [Act.put, List.setIfInBounds_toArray, List.set_cons_zero, List.set_cons_succ]
      refine wpAnyH_ready (rs := [4]) (by kernel_rfl) (by simp) ?_
      refine AllReadyH.cons (o := { dst := some 8, op := Op.buildSlice 33 1 #[(0, Operand.tmp 7)], type := 33, pos := "share.go:156", after := #[{ on := 3, ground := Ground.data }], guard := none }) rfl (fun K hK => ?_) AllReadyH.nil
      go_simp
      refine hK.out _ _ (HC.out _ (by first | exact HQ5.out | exact HQ5.out.drew)) (fun hS => ?_)
      clear hK K
      try simp only [Act.put, List.setIfInBounds_toArray, List.set_cons_zero, List.set_cons_succ]
      refine wpAnyH_ready (rs := [5]) (by kernel_rfl) (by simp) ?_
      refine AllReadyH.cons (o := { dst := some 9, op := Op.call { callee := Callee.builtin Builtin.append, args := #[Operand.tmp 4, Operand.tmp 8], argTypes := #[33, 33] }, type := 33, pos := "share.go:156", after := #[{ on := 0, ground := Ground.data }, { on := 4, ground := Ground.data }, { on := 3, ground := Ground.chain }], guard := none }) rfl (fun K hK => ?_) AllReadyH.nil
      refine step_pushV (by rfl) _ _ (by rfl) w0.heap.size v vs (by rfl) (HRV.out.below (by first | exact HQ5.out | exact HQ5.out.drew)) w4.heap.size 1 (some ⟨w.heap.size, 0, none⟩) n n (by rfl) ((cell_new w4 #[.slice (some ⟨w.heap.size, 0, none⟩) n n] 22 0).trans rfl) hvl.out (Nat.le_trans (Nat.le_of_lt hBl) (Below.size (by first | exact HQ5.out | exact HQ5.out.drew))) ?_
      intro v2 w' hr' hg' _
      have hrs5 := (HRS.out.below HQ5.out).append (Rows3.one (w := w4.alloc (.cells #[.slice (some ⟨w.heap.size, 0, none⟩) n n] 22)) ((HW.out.ints' HGL.out (by omega)).below (below_alloc w4 _)) (Nat.le_refl _) (fun h => by cases h) (HW.out.own3.below (below_alloc w4 _)))
      have hnr5 := (HNR.out.below HQ5.out).push (s := w.heap.size) (v := .slice (some ⟨w.heap.size, 0, none⟩) n n) (l := G) ⟨w.heap.size, Nat.le_of_lt hBl, by rw [HGL.out], HW.out.below' (below_alloc w4 _), by rw [HGL.out]; omega⟩ HNR.out.lt (Nat.le_refl _)
      obtain ⟨p1, p2, p3⟩ := St.push (HBX.out.below HQ5.out) (HRV.out.below HQ5.out) (by first | exact hg' | exact ⟨hg'.os, hg'.tape, hg'.output, hg'.size, hg'.block⟩) hr' hrs5 hnr5
      have HP1 := Lib.hid p1
      have HP2 : Hid (KeptT w0.heap.size w _) := Lib.hid ((KeptT.of HQ5.out).trans p2)
      obtain ⟨hz1, hz2⟩ := hfz.out _ p3
      have HC9 : Hid (w'.cell? ⟨pC, 0, none⟩ = some (.pointer (some ⟨p, 0, none⟩))) := Lib.hid (hPC.out _ _ (by first | exact HQ5.out | exact HQ5.out.drew) hg')
      obtain ⟨A2, c2, e2, _⟩ := hr'.form
      generalize (vs ++ [Value.slice (some ⟨w.heap.size, 0, none⟩) n n]).length = len2 at e2
      subst e2
      clear p1 p2 p3 hg' hr' hrs5 hnr5
      refine hK.out _ _ (HC9.out) (fun hS => ?_)
      clear hK K
      try simp only [Act.put, List.setIfInBounds_toArray, List.set_cons_zero, List.set_cons_succ]
      refine wpAnyH_ready (rs := [6]) (by kernel_rfl) (by simp) ?_
      refine AllReadyH.cons (o := { dst := none, op := Op.store 33 (Operand.tmp 1) (Operand.tmp 9), type := 0, pos := "share.go:156", after := #[{ on := 5, ground := Ground.data }, { on := 5, ground := Ground.chain }, { on := 0, ground := Ground.phase }, { on := 1, ground := Ground.phase }, { on := 2, ground := Ground.phase }, { on := 3, ground := Ground.phase }, { on := 4, ground := Ground.phase }, { on := 5, ground := Ground.phase }], guard := none }) rfl (fun K hK => ?_) AllReadyH.nil
      go_simp
      refine hK.out _ _ (hPS.out _ _ HC9.out) (fun hS => ?_)
      clear hK K
      try simp only [Act.put, List.setIfInBounds_toArray, List.set_cons_zero, List.set_cons_succ]
      refine wpAnyH_done (by kernel_rfl) ?_ _
      go_wp2
      first | go_end0 | ((try simp only [Exit.inBlock, Exit.then]); refine bodyPost_ret (results_none rfl _ _ _) rfl ?_)
      exact ⟨rfl, HP1.out, HP2.out⟩
    · skip
      go_simp
      refine hK.out _ _ (HC.out _ (by first | exact HQ5.out | exact HQ5.out.drew)) (fun hS => ?_)
      clear hK K
      try simp only [Act.put, List.setIfInBounds_toArray, List.set_cons_zero, List.set_cons_succ]
      refine wpAnyH_ready (rs := [0]) (by kernel_rfl) (by simp) ?_
      refine AllReadyH.cons (o := { dst := some 4, op := Op.load 33 (Operand.tmp 1), type := 33, pos := "share.go:156", after := #[], guard := none }) rfl (fun K hK => ?_) AllReadyH.nil
      go_simp
      refine hK.out _ _ (hS) (fun hS => ?_)
      clear hK K
      try simp only [Act.put, List.setIfInBounds_toArray, List.set_cons_zero, List.set_cons_succ]
      refine wpAnyH_ready (rs := [5]) (by kernel_rfl) (by simp) ?_
      refine AllReadyH.cons (o := { dst := some 9, op := Op.call { callee := Callee.builtin Builtin.append, args := #[Operand.tmp 4, Operand.tmp 8], argTypes := #[33, 33] }, type := 33, pos := "share.go:156", after := #[{ on := 0, ground := Ground.data }, { on := 4, ground := Ground.data }, { on := 3, ground := Ground.chain }], guard := none }) rfl (fun K hK => ?_) AllReadyH.nil
      refine step_pushV (by rfl) _ _ (by rfl) w0.heap.size v vs (by rfl) (HRV.out.below (by first | exact HQ5.out | exact HQ5.out.drew)) w4.heap.size 1 (some ⟨w.heap.size, 0, none⟩) n n (by rfl) ((cell_new w4 #[.slice (some ⟨w.heap.size, 0, none⟩) n n] 22 0).trans rfl) hvl.out (Nat.le_trans (Nat.le_of_lt hBl) (Below.size (by first | exact HQ5.out | exact HQ5.out.drew))) ?_
      intro v2 w' hr' hg' _
      have hrs5 := (HRS.out.below HQ5.out).append (Rows3.one (w := w4.alloc (.cells #[.slice (some ⟨w.heap.size, 0, none⟩) n n] 22)) ((HW.out.ints' HGL.out (by omega)).below (below_alloc w4 _)) (Nat.le_refl _) (fun h => by cases h) (HW.out.own3.below (below_alloc w4 _)))
      have hnr5 := (HNR.out.below HQ5.out).push (s := w.heap.size) (v := .slice (some ⟨w.heap.size, 0, none⟩) n n) (l := G) ⟨w.heap.size, Nat.le_of_lt hBl, by rw [HGL.out], HW.out.below' (below_alloc w4 _), by rw [HGL.out]; omega⟩ HNR.out.lt (Nat.le_refl _)
      obtain ⟨p1, p2, p3⟩ := St.push (HBX.out.below HQ5.out) (HRV.out.below HQ5.out) (by first | exact hg' | exact ⟨hg'.os, hg'.tape, hg'.output, hg'.size, hg'.block⟩) hr' hrs5 hnr5
      have HP1 := Lib.hid p1
      have HP2 : Hid (KeptT w0.heap.size w _) := Lib.hid ((KeptT.of HQ5.out).trans p2)
      obtain ⟨hz1, hz2⟩ := hfz.out _ p3
      have HC9 : Hid (w'.cell? ⟨pC, 0, none⟩ = some (.pointer (some ⟨p, 0, none⟩))) := Lib.hid (hPC.out _ _ (by first | exact HQ5.out | exact HQ5.out.drew) hg')
      obtain ⟨A2, c2, e2, _⟩ := hr'.form
      generalize (vs ++ [Value.slice (some ⟨w.heap.size, 0, none⟩) n n]).length = len2 at e2
      subst e2
      clear p1 p2 p3 hg' hr' hrs5 hnr5
      refine hK.out _ _ (HC9.out) (fun hS => ?_)
      clear hK K
      try simp only [Act.put, List.setIfInBounds_toArray, List.set_cons_zero, List.set_cons_succ]
      refine wpAnyH_ready (rs := [6]) (by kernel_rfl) (by simp) ?_
      refine AllReadyH.cons (o := { dst := none, op := Op.store 33 (Operand.tmp 1) (Operand.tmp 9), type := 0, pos := "share.go:156", after := #[{ on := 5, ground := Ground.data }, { on := 5, ground := Ground.chain }, { on := 0, ground := Ground.phase }, { on := 1, ground := Ground.phase }, { on := 2, ground := Ground.phase }, { on := 3, ground := Ground.phase }, { on := 4, ground := Ground.phase }, { on := 5, ground := Ground.phase }], guard := none }) rfl (fun K hK => ?_) AllReadyH.nil
      go_simp
      refine hK.out _ _ (hPS.out _ _ HC9.out) (fun hS => ?_)
      clear hK K
      try simp only [Act.put, List.setIfInBounds_toArray, List.set_cons_zero, List.set_cons_succ]
      refine wpAnyH_done (by kernel_rfl) ?_ _
      go_wp2
      first | go_end0 | ((try simp only [Exit.inBlock, Exit.then]); refine bodyPost_ret (results_none rfl _ _ _) rfl ?_)
      exact ⟨rfl, HP1.out, HP2.out⟩
end Go.Proofs.Ytpehhbiodmgjeaa
