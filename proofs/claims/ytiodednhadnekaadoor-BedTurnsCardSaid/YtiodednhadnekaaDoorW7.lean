/- Walks: math/bits: TrailingZeros and OnesCount of a group of crops. -/
import Derived.Test.YtiodednhadnekaaDoorW6
namespace Go.Proofs.YtiodednhadnekaaDoor
open Go.RowKit Go.Deep

/-- What math/bits lays in its table for 64 bits. -/
def tab64 : List Int := [0, 1, 56, 2, 57, 49, 28, 3, 61, 58, 42, 50, 38, 29, 17, 4, 62, 47, 59, 36, 45, 43, 51, 22, 53, 39, 33, 30, 24, 18, 12, 5, 63, 55, 48, 27, 60, 41, 37, 16, 46, 35, 44, 21, 52, 32, 23, 11, 54, 26, 40, 15, 34, 20, 31, 10, 25, 14, 19, 9, 13, 8, 7, 6]
def Tab (w : World) : Prop := ∀ i, i < 64 → w.cell? ⟨1, i, none⟩ = some (.int .u8 (tab64.getD i 0))
theorem Tab.below {w w' : World} (h : Tab w) (hb : Below w.heap.size w w') : Tab w' := fun i hi => (hb.cell (lt_of_cell (h i hi))).trans (h i hi)
theorem Tab.lt {w : World} (h : Tab w) : 1 < w.heap.size := lt_of_cell (h 0 (by omega))
theorem Tab.drewN {w : World} (h : Tab w) (k : Nat) : Tab (w.drewN k) := h
theorem Tab.grown {w w' : World} {row : Option Nat} (h : Tab w) (hg : w.grownBy w' row) (hr : some 1 ≠ row) : Tab w' := fun i hi => (World.cell?_of_block (hg.block 1 h.lt hr)).trans (h i hi)
def pI (m : Nat) : Int := bits .and .u64 (m : Int) (IntKind.u64.wrap (-(m : Int)))
def qI (m : Nat) : Int := IntKind.u64.wrap (pI m * 285870213051353865)
def iI (m : Nat) : Int := qI m / 288230376151711744
theorem tz_chk : ∀ m, m < 128 → 0 < m → (0 ≤ pI m ∧ pI m ≤ 128 ∧ 0 ≤ qI m ∧ 0 ≤ iI m ∧ iI m < 64 ∧ tab64.getD (iI m).toNat 0 = (tzN m : Int) ∧ tzN m < 7) := by decide +kernel
set_option maxRecDepth 100000 in
set_option maxHeartbeats 1000000 in
/-- math/bits.TrailingZeros64 -/
theorem f90_any (m : Nat) (w : World) (ht : Tab w) (h0 : 0 < m) (hm : m < 128)  :
    Calls Tryd.prog 90 #[.int .u64 (m : Int)] w fun e w' => e = .returned (.int .i64 (tzN m : Int)) ∧ w = w' := by
  have hq : ((m : Int) == 0) = false := by simp; omega
  obtain ⟨c1, c2, c3, c4, c5, c6, c7⟩ := tz_chk m hm h0
  have hb1 : bits .and .u64 (m : Int) (IntKind.u64.wrap (-(m : Int))) = pI m := rfl
  have hb2 : IntKind.u64.wrap (pI m * 285870213051353865) = qI m := rfl
  obtain ⟨I, hI⟩ := nat_of _ c4
  have hb3 : qI m / 288230376151711744 = (I : Int) := hI
  rw [hI] at c5 c6
  simp only [Int.toNat_natCast] at c6
  have hcell := ht I (by omega)
  rw [c6] at hcell
  have i0 : (0 : Int) ≤ (I : Int) := by omega
  clear ht hI c4 c6
  generalize tzN m = t at *
  generalize qI m = q at *
  generalize pI m = p at *
  go_enter Tryd.func90, Tryd.ntmps90
  go_wp2
  go_ret
  exact ⟨rfl, rfl⟩
/-- math/bits.TrailingZeros -/
theorem f57_any (m : Nat) (w : World) (ht : Tab w) (h0 : 0 < m) (hm : m < 128)  :
    Calls Tryd.prog 57 #[.int .u64 (m : Int)] w fun e w' => e = .returned (.int .i64 (tzN m : Int)) ∧ w = w' := by
  have K := Lib.hid (f90_any m w ht h0 hm)
  generalize tzN m = t at *
  clear ht
  go_enter Tryd.func57, Tryd.ntmps57
  go_wp2_with fail
  refine K.out.mono ?_
  rintro e w' ⟨rfl, rfl⟩
  go_wp2
  go_ret
  exact ⟨rfl, rfl⟩
def pc1 (x : Int) : Int := IntKind.u64.wrap (bits .and .u64 (x / 2) 6148914691236517205 + bits .and .u64 x 6148914691236517205)
def pc2 (x : Int) : Int := IntKind.u64.wrap (bits .and .u64 (x / 4) 3689348814741910323 + bits .and .u64 x 3689348814741910323)
def pc3 (x : Int) : Int := bits .and .u64 (IntKind.u64.wrap (x / 16 + x)) 1085102592571150095
def pc4 (x y : Int) : Int := IntKind.u64.wrap (x + x / y)
def pcE (m : Nat) : Int := bits .and .i64 (wrap64 (pc4 (pc4 (pc4 (pc3 (pc2 (pc1 (m : Int)))) 256) 65536) 4294967296)) 127
theorem pc_chk : ∀ m, m < 128 → pcE m = (popN m : Int) := by decide +kernel
set_option maxRecDepth 100000 in
set_option maxHeartbeats 1000000 in
/-- math/bits.OnesCount64 -/
theorem f111_any (m : Nat) (w : World) (hm : m < 128)  :
    Calls Tryd.prog 111 #[.int .u64 (m : Int)] w fun e w' => e = .returned (.int .i64 (popN m : Int)) ∧ w = w' := by
  go_enter Tryd.func111, Tryd.ntmps111
  go_wp2
  go_ret
  refine ⟨ret_int ?_, rfl⟩
  exact pc_chk m hm
/-- math/bits.OnesCount -/
theorem f101_any (m : Nat) (w : World) (hm : m < 128)  :
    Calls Tryd.prog 101 #[.int .u64 (m : Int)] w fun e w' => e = .returned (.int .i64 (popN m : Int)) ∧ w = w' := by
  have K := Lib.hid (f111_any m w hm)
  generalize popN m = t at *
  go_enter Tryd.func101, Tryd.ntmps101
  go_wp2_with fail
  refine K.out.mono ?_
  rintro e w' ⟨rfl, rfl⟩
  go_wp2
  go_ret
  exact ⟨rfl, rfl⟩
end Go.Proofs.YtiodednhadnekaaDoor
