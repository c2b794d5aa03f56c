/- Walks: parts and part. -/
import Derived.Test.YtiodednhadnekaaDoorW44
namespace Go.Proofs.YtiodednhadnekaaDoor
open Go.RowKit Go.Deep
attribute [local go_sem ↓] Go.wp_at_zero Go.wp_at_succ

theorem Kept.likeU {n : Nat} {gr : Nat → Nat} {a b W : World} (h : Kept (fun _ i => OwnU n gr i) a b) (h1 : W.heap = b.heap) (h2 : W.os = b.os) (h3 : W.tape = b.tape) (h4 : W.output = b.output) : Kept (fun _ i => OwnU n gr i) a W :=
  ⟨h2.trans h.os, h3.trans h.tape, h4.trans h.output, by rw [h1]; exact h.size, fun i hi hn => by rw [h1]; exact h.block i hi hn, fun _ _ hn => hn⟩
section
variable (n : Nat) (b : List (List Int)) (w0 : World) (B : Option Addr) (cb gU cU : Nat) (gr : Nat → Nat)
/-- What parts is shown to do. -/
def PartsC (f k : Nat) : Prop := ∀ (o : Nat → Nat → Int) (w : World), PartS n k o → UsedM w gU gr n (usedO o) → Below w0.heap.size w0 w →
  Calls Tryd.prog 23 #[.slice B n cb, .slice (some ⟨gU, 0, none⟩) n cU, .int .i64 (k : Int)] w fun e w' => e = .returned (.bool (mtAny n (trans b n) f k o)) ∧ Kept (fun _ i => OwnU n gr i) w w' ∧ UsedM w' gU gr n (usedO o)
/-- What part is shown to do. -/
def PartC (f k j : Nat) (l : List Nat) : Prop := ∀ (o : Nat → Nat → Int) (A : Option Addr) (c : Nat) (w : World), PartS n k o → UsedM w gU gr n (usedO o) → Below w0.heap.size w0 w → IntsN (fun _ i => OwnU n gr i) w A l → l.length ≤ c → (∀ i, i < l.length → o i (l.getD i 0) < 0) →
  Calls Tryd.prog 69 #[.slice B n cb, .slice (some ⟨gU, 0, none⟩) n cU, .int .i64 (k : Int), .slice A l.length c] w fun e w' => e = .returned (.bool (partF b n f k o j l)) ∧ Kept (fun _ i => OwnU n gr i) w w' ∧ UsedM w' gU gr n (usedO o)
set_option maxRecDepth 100000 in
set_option maxHeartbeats 8000000 in
theorem f69_end (hn : 0 < n) (hn5 : n ≤ 5) (hgr : ∀ r, r < n → w0.heap.size ≤ gr r) (f k : Nat) (hk : k < n) (l : List Nat) (hl : l.length = n) (hl0 : l.getD 0 0 = k) (hln : ∀ i, i < n → l.getD i 0 < n) (ih : PartsC n b w0 B cb gU cU gr f (k + 1)) : PartC n b w0 B cb gU cU gr f k 0 l := by
  intro o A c w hS hU hbel hA _ hfree
  have HS := Lib.hid hS
  have HU := Lib.hid hU
  have HBL := Lib.hid hbel
  have HA := Lib.hid hA
  have HLN := Lib.hid hln
  have HIH := Lib.hid ih
  have HR : Hid (partF b n f k o 0 l = mtAny n (trans b n) f (k + 1) (layTo n l k o)) := partF_end b n f k o l (by omega)
  have HFR : Hid (freeTo n l o = true) := by
    show freeTo n l o = true
    unfold freeTo
    rw [List.all_eq_true]
    intro r hr
    have := List.mem_range.1 hr
    exact decide_eq_true (hfree r (by omega))
  have HUN : Hid (layTo n l (-1) (layTo n l k o) = o) := unlay HFR.out hS.lo k
  have HNX := Lib.hid (hS.next hn hl0)
  have HKB : Hid (∀ w', Kept (fun _ i => OwnU n gr i) w w' → Below w0.heap.size w0 w') := Lib.hid fun w' k => k.below hbel hbel.size (fun i ⟨r, hr, e⟩ => by rw [e]; exact hgr r hr)
  have hq : ((n : Int) == (n : Int)) = true := by simp
  rw [hl]
  have HLL := Lib.hid hl
  clear hS hU hbel hA hfree hl hln hl0 ih
  go_enter Tryd.func69, Tryd.ntmps69
  go_wp2
  go_loopw [11] (fun ii wr => ∃ i : Nat, i ≤ n ∧ ii = .int .i64 (i : Int) ∧ Kept (fun _ i => OwnU n gr i) w wr ∧ UsedM wr gU gr n (usedO (layTo i l k o))) (fun ii _ => n - (intOf ii).toNat)
  case atStart => exact ⟨0, by omega, rfl, Kept.refl _ _, by rw [layTo_zero]; exact HU.out⟩
  case round => as_aux_lemma =>
    obtain ⟨i, hi, rfl, hk', hu⟩ := hrel
    have HK := Lib.hid hk'
    have HUr := Lib.hid hu
    by_cases hin : i < n
    · skip
      have hA2 := (HA.out.kept HK.out (by rw [HLL.out]; exact hn)).1
      rw [HLL.out] at hA2
      obtain ⟨ga, oa, rfl, hca⟩ := hA2.at_ hin
      rw [zs_get] at hca
      have hx := HLN.out i hin
      have c1 := hu.hdr i hin
      have c2 := hu.val i (l.getD i 0) hin hx
      have f2 := hu.frozen hin (l.getD i 0)
      have HNE := Lib.hid (hu.ne hin)
      have U2 : Hid (UsedM (wr.setCell ⟨gr i, l.getD i 0, none⟩ (.bool true)) gU gr n (usedO (layTo (i + 1) l k o))) := Lib.hid (hu.set_ hin hx true (fun p q _ _ => usedO_lay i l k o p q))
      have K2 := Lib.hid (UsedM.turned hk' hin (l.getD i 0) (.bool true))
      have HDIF : Hid (gr i ≠ ga) := Lib.hid fun e => (HA.out.kept HK.out (by rw [HLL.out]; exact hn)).2 ga oa rfl ⟨i, hin, e.symm⟩
      obtain ⟨x, hx2⟩ : ∃ z, z = l.getD i 0 := ⟨_, rfl⟩
      rw [← hx2] at hca c2 f2 hx U2 K2
      skip
      have i0 : (0 : Int) ≤ (i : Int) := by omega
      have inn : (i : Int) < (n : Int) := by omega
      have x0 : (0 : Int) ≤ (x : Int) := by omega
      have xn : (x : Int) < (n : Int) := by omega
      clear hk' hu hA2 hx2
      go_wp2_with fail
      refine wp_region_held_drew (S := fun W => W.cell? ⟨gU, i, none⟩ = some (.slice (some ⟨gr i, 0, none⟩) n n) ∧ W.cell? ⟨ga, oa + i, none⟩ = some (.int .i64 (x : Int))) (by kernel_rfl) (⟨c1, hca⟩) (fun hS => ?_)
      refine wpAnyH_take (i := 0) (oi := { dst := some 29, op := Op.move (Operand.tmp 1), type := 30, pos := "own.go:138", after := #[], guard := none }) (v := .slice (some ⟨gU, 0, none⟩) n cU) rfl (by kernel_rfl) (by kernel_rfl) (by kernel_rfl) (fun _ _ _ h => h) (Or.inl ⟨by kernel_rfl, fun W hSW => by kernel_rfl⟩) hS ?_
      try simp only [Act.put, List.setIfInBounds_toArray, List.set_cons_zero, List.set_cons_succ]
      refine wpAnyH_take (i := 1) (oi := { dst := some 30, op := Op.move (Operand.tmp 11), type := 3, pos := "own.go:138", after := #[], guard := none }) (v := .int .i64 (i : Int)) rfl (by kernel_rfl) (by kernel_rfl) (by kernel_rfl) (fun _ _ _ h => h) (Or.inl ⟨by kernel_rfl, fun W hSW => by kernel_rfl⟩) hS ?_
      try simp only [Act.put, List.setIfInBounds_toArray, List.set_cons_zero, List.set_cons_succ]
      refine wpAnyH_take (i := 2) (oi := { dst := some 31, op := Op.indexAddr 30 (Operand.tmp 29) (Operand.tmp 30), type := 0, pos := "own.go:138", after := #[{ on := 0, ground := Ground.data }, { on := 1, ground := Ground.data }], guard := none }) (v := .pointer (some ⟨gU, i, none⟩)) rfl (by kernel_rfl) (by kernel_rfl) (by kernel_rfl) (fun _ _ _ h => h) (Or.inl ⟨by kernel_rfl, fun W hSW => by go_simp⟩) hS ?_
      try simp only [Act.put, List.setIfInBounds_toArray, List.set_cons_zero, List.set_cons_succ]
      refine wpAnyH_take (i := 3) (oi := { dst := some 32, op := Op.load 31 (Operand.tmp 31), type := 31, pos := "own.go:138", after := #[{ on := 2, ground := Ground.data }], guard := none }) (v := .slice (some ⟨gr i, 0, none⟩) n n) rfl (by kernel_rfl) (by kernel_rfl) (by kernel_rfl) (fun _ _ _ h => h) (Or.inl ⟨by kernel_rfl, fun W hSW => by have h1 := hSW.1; go_simp⟩) hS ?_
      try simp only [Act.put, List.setIfInBounds_toArray, List.set_cons_zero, List.set_cons_succ]
      refine wpAnyH_take (i := 4) (oi := { dst := some 33, op := Op.move (Operand.tmp 3), type := 29, pos := "own.go:138", after := #[], guard := none }) (v := .slice (some ⟨ga, oa, none⟩) n c) rfl (by kernel_rfl) (by kernel_rfl) (by kernel_rfl) (fun _ _ _ h => h) (Or.inl ⟨by kernel_rfl, fun W hSW => by kernel_rfl⟩) hS ?_
      try simp only [Act.put, List.setIfInBounds_toArray, List.set_cons_zero, List.set_cons_succ]
      refine wpAnyH_take (i := 5) (oi := { dst := some 34, op := Op.move (Operand.tmp 11), type := 3, pos := "own.go:138", after := #[], guard := none }) (v := .int .i64 (i : Int)) rfl (by kernel_rfl) (by kernel_rfl) (by kernel_rfl) (fun _ _ _ h => h) (Or.inl ⟨by kernel_rfl, fun W hSW => by kernel_rfl⟩) hS ?_
      try simp only [Act.put, List.setIfInBounds_toArray, List.set_cons_zero, List.set_cons_succ]
      refine wpAnyH_take (i := 6) (oi := { dst := some 35, op := Op.indexAddr 29 (Operand.tmp 33) (Operand.tmp 34), type := 0, pos := "own.go:138", after := #[{ on := 4, ground := Ground.data }, { on := 5, ground := Ground.data }], guard := none }) (v := .pointer (some ⟨ga, oa + i, none⟩)) rfl (by kernel_rfl) (by kernel_rfl) (by kernel_rfl) (fun _ _ _ h => h) (Or.inl ⟨by kernel_rfl, fun W hSW => by go_simp⟩) hS ?_
      try simp only [Act.put, List.setIfInBounds_toArray, List.set_cons_zero, List.set_cons_succ]
      refine wpAnyH_take (i := 7) (oi := { dst := some 36, op := Op.load 3 (Operand.tmp 35), type := 3, pos := "own.go:138", after := #[{ on := 6, ground := Ground.data }], guard := none }) (v := .int .i64 (x : Int)) rfl (by kernel_rfl) (by kernel_rfl) (by kernel_rfl) (fun _ _ _ h => h) (Or.inl ⟨by kernel_rfl, fun W hSW => by have h1 := hSW.2; go_simp⟩) hS ?_
      try simp only [Act.put, List.setIfInBounds_toArray, List.set_cons_zero, List.set_cons_succ]
      refine wpAnyH_take (i := 8) (oi := { dst := some 37, op := Op.indexAddr 31 (Operand.tmp 32) (Operand.tmp 36), type := 0, pos := "own.go:138", after := #[{ on := 3, ground := Ground.data }, { on := 7, ground := Ground.data }, { on := 0, ground := Ground.phase }, { on := 1, ground := Ground.phase }, { on := 2, ground := Ground.phase }, { on := 3, ground := Ground.phase }, { on := 4, ground := Ground.phase }, { on := 5, ground := Ground.phase }, { on := 6, ground := Ground.phase }, { on := 7, ground := Ground.phase }], guard := none }) (v := .pointer (some ⟨gr i, x, none⟩)) rfl (by kernel_rfl) (by kernel_rfl) (by kernel_rfl) (fun _ _ _ h => h) (Or.inl ⟨by kernel_rfl, fun W hSW => by go_simp⟩) hS ?_
      try simp only [Act.put, List.setIfInBounds_toArray, List.set_cons_zero, List.set_cons_succ]
      refine wpAnyH_ready (rs := [9]) (by kernel_rfl) (by simp) ?_
      refine AllReadyH.cons (o := { dst := none, op := Op.store 4 (Operand.tmp 37) (Operand.const (Value.bool true)), type := 0, pos := "own.go:138", after := #[{ on := 8, ground := Ground.data }, { on := 0, ground := Ground.phase }, { on := 1, ground := Ground.phase }, { on := 2, ground := Ground.phase }, { on := 3, ground := Ground.phase }, { on := 4, ground := Ground.phase }, { on := 5, ground := Ground.phase }, { on := 6, ground := Ground.phase }, { on := 7, ground := Ground.phase }], guard := none }) rfl (fun K hK => ?_) AllReadyH.nil
      go_simp
      refine hK.out _ _ (⟨(World.cell?_setCell_other _ ⟨gr i, x, none⟩ ⟨gU, i, none⟩ _ (fun e => HNE.out (by injection e))).trans hS.1, (World.cell?_setCell_other _ ⟨gr i, x, none⟩ ⟨ga, oa + i, none⟩ _ (fun e => HDIF.out (by injection e))).trans hS.2⟩) (fun hS => ?_)
      clear hK K
      try simp only [Act.put, List.setIfInBounds_toArray, List.set_cons_zero, List.set_cons_succ]
      refine wpAnyH_done (by kernel_rfl) ?_ _
      clear hS
      go_wp2
      go_roundw
      case rel => exact ⟨i + 1, by omega, by go_num, K2.out.likeU rfl rfl rfl rfl, U2.out.heap rfl⟩
      case measure => simp [intOf]; omega
    · skip
      obtain rfl : i = n := by omega
      have K23 : Hid (Calls Tryd.prog 23 #[.slice B i cb, .slice (some ⟨gU, 0, none⟩) i cU, .int .i64 ((k : Int) + 1)] wr fun e w' => e = .returned (.bool (mtAny i (trans b i) f (k + 1) (layTo i l k o))) ∧ Kept (fun _ j => OwnU i gr j) wr w' ∧ UsedM w' gU gr i (usedO (layTo i l k o))) := Lib.hid (HIH.out (layTo i l k o) wr HNX.out hu (HKB.out wr hk'))
      skip
      clear hk' hu
      have k0 : (0 : Int) ≤ (k : Int) := by omega
      have kn : (k : Int) < (i : Int) := by omega
      go_wp2_with fail
      refine K23.out.mono ?_
      rintro e w2 ⟨rfl, hk2, hu2⟩
      have K2 := Lib.hid (HK.out.trans hk2)
      have U2 := Lib.hid hu2
      clear hk2 hu2 K23
      go_wp2
      go_loopw [13] (fun ii ws => ∃ q : Nat, q ≤ i ∧ ii = .int .i64 (q : Int) ∧ Kept (fun _ j => OwnU i gr j) w ws ∧ UsedM ws gU gr i (usedO (layTo q l (-1) (layTo i l k o)))) (fun ii _ => i - (intOf ii).toNat)
      case atStart => exact ⟨0, by omega, rfl, K2.out, by rw [layTo_zero]; exact U2.out⟩
      case round => as_aux_lemma =>
        obtain ⟨q, hq3, rfl, hk', hu⟩ := hrel
        obtain ⟨nn, hnn⟩ : ∃ z, z = i := ⟨_, rfl⟩
        skip
        have HK := Lib.hid hk'
        have HUr := Lib.hid hu
        by_cases hin : q < i
        · skip
          have hA2 := (HA.out.kept HK.out (by rw [HLL.out]; exact hn)).1
          rw [HLL.out] at hA2
          obtain ⟨ga, oa, rfl, hca⟩ := hA2.at_ hin
          rw [zs_get] at hca
          have hx := HLN.out q hin
          have c1 := hu.hdr q hin
          have c2 := hu.val q (l.getD q 0) hin hx
          have f2 := hu.frozen hin (l.getD q 0)
          have HNE := Lib.hid (hu.ne hin)
          have U2 : Hid (UsedM (wr.setCell ⟨gr q, l.getD q 0, none⟩ (.bool false)) gU gr i (usedO (layTo (q + 1) l (-1) (layTo i l k o)))) := Lib.hid (hu.set_ hin hx false (fun p q' _ _ => usedO_take q l (layTo i l k o) p q'))
          have K2 := Lib.hid (UsedM.turned hk' hin (l.getD q 0) (.bool false))
          have HDIF : Hid (gr q ≠ ga) := Lib.hid fun e => (HA.out.kept HK.out (by rw [HLL.out]; exact hn)).2 ga oa rfl ⟨q, hin, e.symm⟩
          obtain ⟨x, hx2⟩ : ∃ z, z = l.getD q 0 := ⟨_, rfl⟩
          rw [← hx2] at hca c2 f2 hx U2 K2
          skip
          have i0 : (0 : Int) ≤ (q : Int) := by omega
          have inn : (q : Int) < (i : Int) := by omega
          have x0 : (0 : Int) ≤ (x : Int) := by omega
          have xn : (x : Int) < (i : Int) := by omega
          clear hk' hu hA2 hx2
          go_wp2_with fail
          refine wp_region_held_drew (S := fun W => W.cell? ⟨gU, q, none⟩ = some (.slice (some ⟨gr q, 0, none⟩) i i) ∧ W.cell? ⟨ga, oa + q, none⟩ = some (.int .i64 (x : Int))) (by kernel_rfl) (⟨c1, hca⟩) (fun hS => ?_)
          refine wpAnyH_take (i := 0) (oi := { dst := some 48, op := Op.move (Operand.tmp 1), type := 30, pos := "own.go:142", after := #[], guard := none }) (v := .slice (some ⟨gU, 0, none⟩) i cU) rfl (by kernel_rfl) (by kernel_rfl) (by kernel_rfl) (fun _ _ _ h => h) (Or.inl ⟨by kernel_rfl, fun W hSW => by kernel_rfl⟩) hS ?_
          try simp only [Act.put, List.setIfInBounds_toArray, List.set_cons_zero, List.set_cons_succ]
          refine wpAnyH_take (i := 1) (oi := { dst := some 49, op := Op.move (Operand.tmp 13), type := 3, pos := "own.go:142", after := #[], guard := none }) (v := .int .i64 (q : Int)) rfl (by kernel_rfl) (by kernel_rfl) (by kernel_rfl) (fun _ _ _ h => h) (Or.inl ⟨by kernel_rfl, fun W hSW => by kernel_rfl⟩) hS ?_
          try simp only [Act.put, List.setIfInBounds_toArray, List.set_cons_zero, List.set_cons_succ]
          refine wpAnyH_take (i := 2) (oi := { dst := some 50, op := Op.indexAddr 30 (Operand.tmp 48) (Operand.tmp 49), type := 0, pos := "own.go:142", after := #[{ on := 0, ground := Ground.data }, { on := 1, ground := Ground.data }], guard := none }) (v := .pointer (some ⟨gU, q, none⟩)) rfl (by kernel_rfl) (by kernel_rfl) (by kernel_rfl) (fun _ _ _ h => h) (Or.inl ⟨by kernel_rfl, fun W hSW => by go_simp⟩) hS ?_
          try simp only [Act.put, List.setIfInBounds_toArray, List.set_cons_zero, List.set_cons_succ]
          refine wpAnyH_take (i := 3) (oi := { dst := some 51, op := Op.load 31 (Operand.tmp 50), type := 31, pos := "own.go:142", after := #[{ on := 2, ground := Ground.data }], guard := none }) (v := .slice (some ⟨gr q, 0, none⟩) i i) rfl (by kernel_rfl) (by kernel_rfl) (by kernel_rfl) (fun _ _ _ h => h) (Or.inl ⟨by kernel_rfl, fun W hSW => by have h1 := hSW.1; go_simp⟩) hS ?_
          try simp only [Act.put, List.setIfInBounds_toArray, List.set_cons_zero, List.set_cons_succ]
          refine wpAnyH_take (i := 4) (oi := { dst := some 52, op := Op.move (Operand.tmp 3), type := 29, pos := "own.go:142", after := #[], guard := none }) (v := .slice (some ⟨ga, oa, none⟩) i c) rfl (by kernel_rfl) (by kernel_rfl) (by kernel_rfl) (fun _ _ _ h => h) (Or.inl ⟨by kernel_rfl, fun W hSW => by kernel_rfl⟩) hS ?_
          try simp only [Act.put, List.setIfInBounds_toArray, List.set_cons_zero, List.set_cons_succ]
          refine wpAnyH_take (i := 5) (oi := { dst := some 53, op := Op.move (Operand.tmp 13), type := 3, pos := "own.go:142", after := #[], guard := none }) (v := .int .i64 (q : Int)) rfl (by kernel_rfl) (by kernel_rfl) (by kernel_rfl) (fun _ _ _ h => h) (Or.inl ⟨by kernel_rfl, fun W hSW => by kernel_rfl⟩) hS ?_
          try simp only [Act.put, List.setIfInBounds_toArray, List.set_cons_zero, List.set_cons_succ]
          refine wpAnyH_take (i := 6) (oi := { dst := some 54, op := Op.indexAddr 29 (Operand.tmp 52) (Operand.tmp 53), type := 0, pos := "own.go:142", after := #[{ on := 4, ground := Ground.data }, { on := 5, ground := Ground.data }], guard := none }) (v := .pointer (some ⟨ga, oa + q, none⟩)) rfl (by kernel_rfl) (by kernel_rfl) (by kernel_rfl) (fun _ _ _ h => h) (Or.inl ⟨by kernel_rfl, fun W hSW => by go_simp⟩) hS ?_
          try simp only [Act.put, List.setIfInBounds_toArray, List.set_cons_zero, List.set_cons_succ]
          refine wpAnyH_take (i := 7) (oi := { dst := some 55, op := Op.load 3 (Operand.tmp 54), type := 3, pos := "own.go:142", after := #[{ on := 6, ground := Ground.data }], guard := none }) (v := .int .i64 (x : Int)) rfl (by kernel_rfl) (by kernel_rfl) (by kernel_rfl) (fun _ _ _ h => h) (Or.inl ⟨by kernel_rfl, fun W hSW => by have h1 := hSW.2; go_simp⟩) hS ?_
          try simp only [Act.put, List.setIfInBounds_toArray, List.set_cons_zero, List.set_cons_succ]
          refine wpAnyH_take (i := 8) (oi := { dst := some 56, op := Op.indexAddr 31 (Operand.tmp 51) (Operand.tmp 55), type := 0, pos := "own.go:142", after := #[{ on := 3, ground := Ground.data }, { on := 7, ground := Ground.data }, { on := 0, ground := Ground.phase }, { on := 1, ground := Ground.phase }, { on := 2, ground := Ground.phase }, { on := 3, ground := Ground.phase }, { on := 4, ground := Ground.phase }, { on := 5, ground := Ground.phase }, { on := 6, ground := Ground.phase }, { on := 7, ground := Ground.phase }], guard := none }) (v := .pointer (some ⟨gr q, x, none⟩)) rfl (by kernel_rfl) (by kernel_rfl) (by kernel_rfl) (fun _ _ _ h => h) (Or.inl ⟨by kernel_rfl, fun W hSW => by go_simp⟩) hS ?_
          try simp only [Act.put, List.setIfInBounds_toArray, List.set_cons_zero, List.set_cons_succ]
          refine wpAnyH_ready (rs := [9]) (by kernel_rfl) (by simp) ?_
          refine AllReadyH.cons (o := { dst := none, op := Op.store 4 (Operand.tmp 56) (Operand.const (Value.bool false)), type := 0, pos := "own.go:142", after := #[{ on := 8, ground := Ground.data }, { on := 0, ground := Ground.phase }, { on := 1, ground := Ground.phase }, { on := 2, ground := Ground.phase }, { on := 3, ground := Ground.phase }, { on := 4, ground := Ground.phase }, { on := 5, ground := Ground.phase }, { on := 6, ground := Ground.phase }, { on := 7, ground := Ground.phase }], guard := none }) rfl (fun K hK => ?_) AllReadyH.nil
          go_simp
          refine hK.out _ _ (⟨(World.cell?_setCell_other _ ⟨gr q, x, none⟩ ⟨gU, q, none⟩ _ (fun e => HNE.out (by injection e))).trans hS.1, (World.cell?_setCell_other _ ⟨gr q, x, none⟩ ⟨ga, oa + q, none⟩ _ (fun e => HDIF.out (by injection e))).trans hS.2⟩) (fun hS => ?_)
          clear hK K
          try simp only [Act.put, List.setIfInBounds_toArray, List.set_cons_zero, List.set_cons_succ]
          refine wpAnyH_done (by kernel_rfl) ?_ _
          clear hS
          go_wp2
          go_roundw
          case rel => exact ⟨q + 1, by omega, by go_num, K2.out.likeU rfl rfl rfl rfl, U2.out.heap rfl⟩
          case measure => simp [intOf]; omega
        · skip
          obtain rfl : q = i := by omega
          have HF : Hid (UsedM wr gU gr q (usedO o)) := Lib.hid (by rw [HUN.out] at hu; exact hu)
          clear hk' hu
          go_wp2
          go_ret
          exact ⟨ret_bool (by rw [HR.out]), HK.out, HF.out⟩
end
end Go.Proofs.YtiodednhadnekaaDoor
