/- Walks: Groups, bridge, Bridges. -/
import Derived.Test.YtmepndnckcpgjaaGreatF2
import Derived.Deep.RegionHeld3
namespace Go.Proofs.YtmepndnckcpgjaaGreat
open Go.RowKit
def allM (m : Nat) : Nat := 2 ^ m - 1
def brB (n : Nat) (fs : List (Int × Int)) (i : Nat) : Bool := decide (groupsN n fs (allM fs.length) < groupsN n fs (nd (allM fs.length) (2 ^ i)))
theorem allM_lt {m : Nat} (h : m ≤ 14) : allM m < 16384 := by
  have h1 : 2 ^ m ≤ 2 ^ 14 := Nat.pow_le_pow_right (by omega) h
  have h2 : 2 ^ 14 = 16384 := by decide
  have h3 := Nat.two_pow_pos m
  unfold allM
  omega
set_option maxRecDepth 100000 in
set_option maxHeartbeats 8000000 in
/-- (*garden).bridge -/
theorem f34_any (p n : Nat) (A : Option Addr) (m c : Nat) (fs : List (Int × Int)) (i : Nat) (w : World) (hg : Gar w p n A m c fs) (h : garE n fs = 0) (hi : i < m) :
    Calls Tryz.prog 34 #[.pointer (some ⟨p, 0, none⟩), .int .i64 (i : Int)] w fun e w' => e = .returned (.bool (brB n fs i)) ∧ Below w.heap.size w w' := by
  obtain ⟨_, _, h14, _⟩ := garE_facts h
  have hl := hg.fens.len
  rw [hl] at h14
  have HB : Hid (brB n fs i = decide (groupsN n fs (allM m) < groupsN n fs (nd (allM m) (2 ^ i)))) := Lib.hid (by unfold brB; rw [hl])
  have hM := allM_lt h14
  have K33 : Hid (∀ W, Below w.heap.size w W → Calls Tryz.prog 33 #[.pointer (some ⟨p, 0, none⟩)] W fun e w' => e = .returned (.int .i64 (allM m : Int)) ∧ W = w') := Lib.hid fun W hW => f33g_any p n A m c fs W (hg.below hW) h14
  have K32a := Lib.hid fun W (hW : Below w.heap.size w W) => f32_any p n A m c fs (allM m) W (hg.below hW) h hM
  obtain ⟨N, hN, hshl⟩ := shl_one i (by omega)
  have hN2 : N ≤ 16384 := by rw [hN]; exact Nat.le_trans (Nat.pow_le_pow_right (by omega) (show i ≤ 14 by omega)) (by decide)
  have hD : nd (allM m) N < 16384 := nd_le _ _ 14 (Nat.lt_of_lt_of_le hM (by decide))
  have K32b := Lib.hid fun W (hW : Below w.heap.size w W) => f32_any p n A m c fs (nd (allM m) N) W (hg.below hW) h hD
  have e1 := bits_andNot_nat (allM m) N (by omega) (by omega)
  rw [← hN] at HB
  generalize nd (allM m) N = D at *
  generalize allM m = M at *
  generalize groupsN n fs M = r1 at *
  generalize groupsN n fs D = r2 at *
  clear hg h hl hN
  go_enter Tryz.func34, Tryz.ntmps34
  go_wp2_with fail
  refine wp_region_held_drew (S := fun W => Below w.heap.size w W) (by kernel_rfl) (by first | exact Below.refl _ _ | exact (Below.refl _ _).drew) (fun hS => ?_)
  refine wpAnyH_take (i := 0) (oi := { dst := some 5, op := Op.move (Operand.tmp 0), type := 59, pos := "fence.go:77", after := #[], guard := none }) (v := .pointer (some ⟨p, 0, none⟩)) rfl (by kernel_rfl) (by kernel_rfl) (by kernel_rfl) (fun _ _ _ h => h) (Or.inl ⟨by kernel_rfl, fun W hSW => by kernel_rfl⟩) hS ?_
  try simp only [Act.put, List.setIfInBounds_toArray, List.set_cons_zero, List.set_cons_succ]
  refine wpAnyH_take (i := 1) (oi := { dst := some 6, op := Op.move (Operand.tmp 0), type := 59, pos := "fence.go:77", after := #[], guard := none }) (v := .pointer (some ⟨p, 0, none⟩)) rfl (by kernel_rfl) (by kernel_rfl) (by kernel_rfl) (fun _ _ _ h => h) (Or.inl ⟨by kernel_rfl, fun W hSW => by kernel_rfl⟩) hS ?_
  try simp only [Act.put, List.setIfInBounds_toArray, List.set_cons_zero, List.set_cons_succ]
  refine wpAnyH_take (i := 3) (oi := { dst := some 8, op := Op.move (Operand.tmp 1), type := 3, pos := "fence.go:77", after := #[], guard := none }) (v := .int .i64 (i : Int)) rfl (by kernel_rfl) (by kernel_rfl) (by kernel_rfl) (fun _ _ _ h => h) (Or.inl ⟨by kernel_rfl, fun W hSW => by kernel_rfl⟩) hS ?_
  try simp only [Act.put, List.setIfInBounds_toArray, List.set_cons_zero, List.set_cons_succ]
  refine wpAnyH_take (i := 4) (oi := { dst := some 9, op := Op.binOp BinOp.shl 3 (Operand.const (Value.int IntKind.i64 1)) (Operand.tmp 8) 3, type := 3, pos := "fence.go:77", after := #[{ on := 3, ground := Ground.data }], guard := none }) (v := .int .i64 (N : Int)) rfl (by kernel_rfl) (by kernel_rfl) (by kernel_rfl) (fun _ _ _ h => h) (Or.inl ⟨by kernel_rfl, fun W hSW => by go_simp⟩) hS ?_
  try simp only [Act.put, List.setIfInBounds_toArray, List.set_cons_zero, List.set_cons_succ]
  refine wpAnyH_take (i := 7) (oi := { dst := some 12, op := Op.move (Operand.tmp 0), type := 59, pos := "fence.go:77", after := #[], guard := none }) (v := .pointer (some ⟨p, 0, none⟩)) rfl (by kernel_rfl) (by kernel_rfl) (by kernel_rfl) (fun _ _ _ h => h) (Or.inl ⟨by kernel_rfl, fun W hSW => by kernel_rfl⟩) hS ?_
  try simp only [Act.put, List.setIfInBounds_toArray, List.set_cons_zero, List.set_cons_succ]
  refine wpAnyH_take (i := 8) (oi := { dst := some 13, op := Op.move (Operand.tmp 0), type := 59, pos := "fence.go:77", after := #[], guard := none }) (v := .pointer (some ⟨p, 0, none⟩)) rfl (by kernel_rfl) (by kernel_rfl) (by kernel_rfl) (fun _ _ _ h => h) (Or.inl ⟨by kernel_rfl, fun W hSW => by kernel_rfl⟩) hS ?_
  try simp only [Act.put, List.setIfInBounds_toArray, List.set_cons_zero, List.set_cons_succ]
  refine wpAnyH_ready (rs := [2]) (by kernel_rfl) (by simp) ?_
  refine AllReadyH.cons (o := { dst := some 7, op := Op.call { callee := Callee.value (Operand.func 33), args := #[Operand.tmp 6], argTypes := #[59] }, type := 3, pos := "fence.go:77", after := #[{ on := 1, ground := Ground.data }], guard := none }) rfl (fun K hK => ?_) AllReadyH.nil
  go_simp
  refine Calls.mono (K33.out _ hS) ?_
  rintro e wz ⟨rfl, rfl⟩
  refine hK.out _ _ (hS) (fun hS => ?_)
  clear hK K
  try simp only [Act.put, List.setIfInBounds_toArray, List.set_cons_zero, List.set_cons_succ]
  refine wpAnyH_take (i := 5) (oi := { dst := some 10, op := Op.binOp BinOp.andNot 3 (Operand.tmp 7) (Operand.tmp 9) 3, type := 3, pos := "fence.go:77", after := #[{ on := 2, ground := Ground.data }, { on := 4, ground := Ground.data }], guard := none }) (v := .int .i64 (D : Int)) rfl (by kernel_rfl) (by kernel_rfl) (by kernel_rfl) (fun _ _ _ h => h) (Or.inl ⟨by kernel_rfl, fun W hSW => by go_simp⟩) hS ?_
  try simp only [Act.put, List.setIfInBounds_toArray, List.set_cons_zero, List.set_cons_succ]
  refine wpAnyH_ready (rs := [6]) (by kernel_rfl) (by simp) ?_
  refine AllReadyH.cons (o := { dst := some 11, op := Op.call { callee := Callee.value (Operand.func 32), args := #[Operand.tmp 5, Operand.tmp 10], argTypes := #[59, 3] }, type := 3, pos := "fence.go:77", after := #[{ on := 0, ground := Ground.data }, { on := 5, ground := Ground.data }, { on := 2, ground := Ground.chain }], guard := none }) rfl (fun K hK => ?_) AllReadyH.nil
  go_simp
  refine Calls.mono (K32b.out _ hS) ?_
  rintro e w1 ⟨rfl, hb⟩
  have hB1 := below_step hS hb
  clear hb
  refine hK.out _ _ (hB1) (fun hS => ?_)
  clear hK K
  try simp only [Act.put, List.setIfInBounds_toArray, List.set_cons_zero, List.set_cons_succ]
  refine wpAnyH_ready (rs := [9]) (by kernel_rfl) (by simp) ?_
  refine AllReadyH.cons (o := { dst := some 14, op := Op.call { callee := Callee.value (Operand.func 33), args := #[Operand.tmp 13], argTypes := #[59] }, type := 3, pos := "fence.go:77", after := #[{ on := 8, ground := Ground.data }, { on := 6, ground := Ground.chain }], guard := none }) rfl (fun K hK => ?_) AllReadyH.nil
  go_simp
  refine Calls.mono (K33.out _ hS) ?_
  rintro e wz ⟨rfl, rfl⟩
  refine hK.out _ _ (hS) (fun hS => ?_)
  clear hK K
  try simp only [Act.put, List.setIfInBounds_toArray, List.set_cons_zero, List.set_cons_succ]
  refine wpAnyH_ready (rs := [10]) (by kernel_rfl) (by simp) ?_
  refine AllReadyH.cons (o := { dst := some 15, op := Op.call { callee := Callee.value (Operand.func 32), args := #[Operand.tmp 12, Operand.tmp 14], argTypes := #[59, 3] }, type := 3, pos := "fence.go:77", after := #[{ on := 7, ground := Ground.data }, { on := 9, ground := Ground.data }, { on := 9, ground := Ground.chain }], guard := none }) rfl (fun K hK => ?_) AllReadyH.nil
  go_simp
  refine Calls.mono (K32a.out _ hS) ?_
  rintro e w2 ⟨rfl, hb⟩
  have hB2 := below_step hS hb
  clear hb
  refine hK.out _ _ (hB2) (fun hS => ?_)
  clear hK K
  try simp only [Act.put, List.setIfInBounds_toArray, List.set_cons_zero, List.set_cons_succ]
  refine wpAnyH_take (i := 11) (oi := { dst := some 16, op := Op.binOp BinOp.gtr 3 (Operand.tmp 11) (Operand.tmp 15) 3, type := 4, pos := "fence.go:77", after := #[{ on := 6, ground := Ground.data }, { on := 10, ground := Ground.data }], guard := none }) (v := .bool (decide (r1 < r2))) rfl (by kernel_rfl) (by kernel_rfl) (by kernel_rfl) (fun _ _ _ h => h) (Or.inl ⟨by kernel_rfl, fun W hSW => by go_simp⟩) hS ?_
  try simp only [Act.put, List.setIfInBounds_toArray, List.set_cons_zero, List.set_cons_succ]
  refine wpAnyH_take (i := 12) (oi := { dst := some 4, op := Op.assign (Operand.tmp 16), type := 4, pos := "fence.go:77", after := #[{ on := 11, ground := Ground.data }, { on := 10, ground := Ground.chain }, { on := 0, ground := Ground.phase }, { on := 1, ground := Ground.phase }, { on := 2, ground := Ground.phase }, { on := 3, ground := Ground.phase }, { on := 4, ground := Ground.phase }, { on := 5, ground := Ground.phase }, { on := 6, ground := Ground.phase }, { on := 7, ground := Ground.phase }, { on := 8, ground := Ground.phase }, { on := 9, ground := Ground.phase }, { on := 10, ground := Ground.phase }, { on := 11, ground := Ground.phase }], guard := none }) (v := .bool (decide (r1 < r2))) rfl (by kernel_rfl) (by kernel_rfl) (by kernel_rfl) (fun _ _ _ h => h) (Or.inl ⟨by kernel_rfl, fun W hSW => by kernel_rfl⟩) hS ?_
  try simp only [Act.put, List.setIfInBounds_toArray, List.set_cons_zero, List.set_cons_succ]
  refine wpAnyH_done (by kernel_rfl) ?_ _
  go_wp2
  go_ret
  exact ⟨ret_bool HB.out.symm, hS⟩
end Go.Proofs.YtmepndnckcpgjaaGreat
