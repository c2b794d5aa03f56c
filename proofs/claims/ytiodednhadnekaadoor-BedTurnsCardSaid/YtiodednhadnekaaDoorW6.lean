/- Walks: the filler. -/
import Derived.Test.YtiodednhadnekaaDoorW5
namespace Go.Proofs.YtiodednhadnekaaDoor
open Go.RowKit Go.Deep
attribute [local go_sem ↓] Go.wp_at_zero Go.wp_at_succ

/-- The cells of a filler: its size, its places, and the crops of its rows and columns. -/
def fc (n : Nat) (X : Nat → Nat → Int) (R C : Nat → Nat) (i : Nat) : Int :=
  if i = 0 then (n : Int) else if i < 50 then X ((i - 1) / 7) ((i - 1) % 7) else if i < 57 then (R (i - 50) : Int) else (C (i - 57) : Int)
def Fil (w : World) (p n : Nat) (X : Nat → Nat → Int) (R C : Nat → Nat) : Prop :=
  w.heap[p]? = some (.cells ((List.range 64).map fun i => Value.int .i64 (fc n X R C i)).toArray 62 (0, 0))
section
variable {w w' : World} {p n : Nat} {X : Nat → Nat → Int} {R C : Nat → Nat}
theorem Fil.lt (h : Fil w p n X R C) : p < w.heap.size := by
  rcases Nat.lt_or_ge p w.heap.size with hlt | hge
  · exact hlt
  · unfold Fil at h; rw [Array.getElem?_eq_none hge] at h; cases h
theorem Fil.cell (h : Fil w p n X R C) {i : Nat} (hi : i < 64) : w.cell? ⟨p, i, none⟩ = some (.int .i64 (fc n X R C i)) := by
  rw [cell_of_row w p i _ 62 (0, 0) h]
  simp [hi]
theorem Fil.frozen (h : Fil w p n X R C) (i : Nat) : w.frozen? ⟨p, i, none⟩ = false := by
  unfold Fil at h
  simp [World.frozen?, h]
theorem Fil.at0 (h : Fil w p n X R C) : w.cell? ⟨p, 0, none⟩ = some (.int .i64 (n : Int)) := h.cell (by omega)
theorem fc_at {n : Nat} {X : Nat → Nat → Int} {R C : Nat → Nat} {r c : Nat} (hr : r < 7) (hc : c < 7) : fc n X R C (1 + r * 7 + c) = X r c := by
  unfold fc
  rw [if_neg (by omega), if_pos (by omega)]
  congr 1 <;> omega
theorem fc_row {n : Nat} {X : Nat → Nat → Int} {R C : Nat → Nat} {r : Nat} (hr : r < 7) : fc n X R C (50 + r) = R r := by
  unfold fc
  rw [if_neg (by omega), if_neg (by omega), if_pos (by omega)]
  congr 2; omega
theorem fc_col {n : Nat} {X : Nat → Nat → Int} {R C : Nat → Nat} {c : Nat} : fc n X R C (57 + c) = C c := by
  unfold fc
  rw [if_neg (by omega), if_neg (by omega), if_neg (by omega)]
  congr 2; omega
theorem Fil.at_ (h : Fil w p n X R C) {r c : Nat} (hr : r < 7) (hc : c < 7) : w.cell? ⟨p, 1 + r * 7 + c, none⟩ = some (.int .i64 (X r c)) := by
  rw [h.cell (by omega), fc_at hr hc]
theorem Fil.row (h : Fil w p n X R C) {r : Nat} (hr : r < 7) : w.cell? ⟨p, 50 + r, none⟩ = some (.int .i64 (R r : Int)) := by
  rw [h.cell (by omega), fc_row hr]
theorem Fil.col (h : Fil w p n X R C) {c : Nat} (hc : c < 7) : w.cell? ⟨p, 57 + c, none⟩ = some (.int .i64 (C c : Int)) := by
  rw [h.cell (by omega), fc_col]
theorem Fil.set_ (h : Fil w p n X R C) {i : Nat} {v : Int} {X2 : Nat → Nat → Int} {R2 C2 : Nat → Nat} (hv : ∀ j, j < 64 → fc n X2 R2 C2 j = if j = i then v else fc n X R C j) : Fil (w.setCell ⟨p, i, none⟩ (.int .i64 v)) p n X2 R2 C2 := by
  unfold Fil at h ⊢
  simp [World.setCell, Array.getElem?_modify, h]
  apply List.ext_getElem
  · simp
  · intro j h1 h2
    simp at h1 h2
    rw [List.getElem_set]
    simp only [List.getElem_map, List.getElem_range]
    rw [hv j h2]
    by_cases e : i = j
    · subst e; simp
    · rw [if_neg e, if_neg (fun h => e h.symm)]
theorem Fil.setAt (h : Fil w p n X R C) {r c : Nat} (hr : r < 7) (hc : c < 7) (v : Int) : Fil (w.setCell ⟨p, 1 + r * 7 + c, none⟩ (.int .i64 v)) p n (fun i j => if i = r ∧ j = c then v else X i j) R C :=
  h.set_ fun j hj => by
    unfold fc
    by_cases e0 : j = 0
    · rw [if_pos e0, if_pos e0, if_neg (by omega)]
    · rw [if_neg e0, if_neg e0]
      by_cases e1 : j < 50
      · rw [if_pos e1, if_pos e1]
        by_cases e2 : j = 1 + r * 7 + c
        · rw [if_pos e2]; dsimp only; rw [if_pos (by omega)]
        · rw [if_neg e2]; dsimp only; rw [if_neg (by omega)]
      · rw [if_neg e1, if_neg e1, if_neg (show ¬ j = 1 + r * 7 + c by omega)]
theorem Fil.setRow (h : Fil w p n X R C) {r : Nat} (hr : r < 7) (v : Nat) : Fil (w.setCell ⟨p, 50 + r, none⟩ (.int .i64 (v : Int))) p n X (fun i => if i = r then v else R i) C :=
  h.set_ fun j hj => by
    unfold fc
    by_cases e0 : j = 0
    · rw [if_pos e0, if_pos e0, if_neg (by omega)]
    · rw [if_neg e0, if_neg e0]
      by_cases e1 : j < 50
      · rw [if_pos e1, if_pos e1, if_neg (by omega)]
      · rw [if_neg e1, if_neg e1]
        by_cases e2 : j < 57
        · rw [if_pos e2, if_pos e2]
          by_cases e3 : j = 50 + r
          · rw [if_pos e3]; dsimp only; rw [if_pos (by omega)]
          · rw [if_neg e3]; dsimp only; rw [if_neg (by omega)]
        · rw [if_neg e2, if_neg e2, if_neg (by omega)]
theorem Fil.setCol (h : Fil w p n X R C) {c : Nat} (hc : c < 7) (v : Nat) : Fil (w.setCell ⟨p, 57 + c, none⟩ (.int .i64 (v : Int))) p n X R (fun i => if i = c then v else C i) :=
  h.set_ fun j hj => by
    unfold fc
    by_cases e0 : j = 0
    · rw [if_pos e0, if_pos e0, if_neg (by omega)]
    · rw [if_neg e0, if_neg e0]
      by_cases e1 : j < 50
      · rw [if_pos e1, if_pos e1, if_neg (by omega)]
      · rw [if_neg e1, if_neg e1]
        by_cases e2 : j < 57
        · rw [if_pos e2, if_pos e2, if_neg (by omega)]
        · rw [if_neg e2, if_neg e2]
          by_cases e3 : j = 57 + c
          · rw [if_pos e3]; dsimp only; rw [if_pos (by omega)]
          · rw [if_neg e3]; dsimp only; rw [if_neg (by omega)]
theorem Fil.drewN (h : Fil w p n X R C) (k : Nat) : Fil (w.drewN k) p n X R C := h
theorem Fil.drew (h : Fil w p n X R C) : Fil w.drew p n X R C := h
theorem Fil.below (h : Fil w p n X R C) {B : Nat} (hb : Below B w w') (hp : p < B) : Fil w' p n X R C := (hb.block p hp).trans h
theorem Fil.congr (h : Fil w p n X R C) {X2 : Nat → Nat → Int} {R2 C2 : Nat → Nat} (h1 : ∀ i j, i < 7 → j < 7 → X2 i j = X i j) (h2 : ∀ i, i < 7 → R2 i = R i) (h3 : ∀ i, i < 7 → C2 i = C i) : Fil w p n X2 R2 C2 := by
  unfold Fil at h ⊢
  have e : ((List.range 64).map fun i => Value.int .i64 (fc n X2 R2 C2 i)) = (List.range 64).map fun i => Value.int .i64 (fc n X R C i) := by
    apply List.map_congr_left
    intro j hj
    rw [List.mem_range] at hj
    congr 1
    unfold fc
    by_cases e0 : j = 0
    · rw [if_pos e0, if_pos e0]
    · rw [if_neg e0, if_neg e0]
      by_cases e1 : j < 50
      · rw [if_pos e1, if_pos e1, h1 _ _ (by omega) (by omega)]
      · rw [if_neg e1, if_neg e1]
        by_cases e2 : j < 57
        · rw [if_pos e2, if_pos e2, h2 _ (by omega)]
        · rw [if_neg e2, if_neg e2, h3 _ (by omega)]
  rw [e]; exact h
end
theorem bits_nd (a b : Nat) (ha : a < 4611686018427387904) (hb : b < 4611686018427387904) : bits .andNot .i64 (a : Int) (b : Int) = (nd a b : Int) := by
  have e1 : BitVec.ofInt 64 (a : Int) = BitVec.ofNat 64 a := by simp
  have e2 : BitVec.ofInt 64 (b : Int) = BitVec.ofNat 64 b := by simp
  have h1 : a % 18446744073709551616 = a := Nat.mod_eq_of_lt (by omega)
  have h2 : b % 18446744073709551616 = b := Nat.mod_eq_of_lt (by omega)
  have h3 := nd_le a b
  have h4 : a &&& (18446744073709551616 - 1 - b) = nd a b := by
    apply Nat.eq_of_testBit_eq
    intro i
    rw [Nat.testBit_and, bit_nd, show 18446744073709551616 - 1 - b = 2 ^ 64 - (b + 1) by omega, Nat.testBit_two_pow_sub_succ (by omega)]
    by_cases hi : i < 64
    · simp [hi]
    · rw [Nat.testBit_lt_two_pow (x := a) (Nat.lt_of_lt_of_le (show a < 2 ^ 64 by omega) (Nat.pow_le_pow_right (by decide) (by omega)))]; simp
  show IntKind.i64.wrap (((BitVec.ofInt 64 (a : Int)) &&& ~~~ (BitVec.ofInt 64 (b : Int))).toNat : Int) = _
  rw [e1, e2, BitVec.toNat_and, BitVec.toNat_not, BitVec.toNat_ofNat, BitVec.toNat_ofNat]
  simp only [Nat.reducePow, h1, h2, h4]
  exact IntWalk.i64_in _ (by omega)
/-- The filler at p holds a bed. -/
def atF (n : Nat) (b : List (List Int)) (r c : Nat) : Int := if r < n ∧ c < n then gAt b r c else 0
def rowF (n : Nat) (b : List (List Int)) (r : Nat) : Nat := if r < n then rowM n b r else 0
def colF (n : Nat) (b : List (List Int)) (c : Nat) : Nat := if c < n then colM n b c else 0
def FilB (w : World) (p n : Nat) (b : List (List Int)) : Prop := Fil w p n (atF n b) (rowF n b) (colF n b)
set_option maxRecDepth 100000 in
set_option maxHeartbeats 1000000 in
/-- (*filler).open -/
theorem f56_any (p n r c : Nat) (b : List (List Int)) (w : World) (hf : FilB w p n b) (hb : IsBed n b) (hn : n ≤ 7) (hr : r < n) (hc : c < n) :
    Calls Tryd.prog 56 #[.pointer (some ⟨p, 0, none⟩), .int .i64 (r : Int), .int .i64 (c : Int)] w fun e w' => e = .returned (.int .i64 (openM n b r c : Int)) ∧ ∃ q, w' = w.drewN q := by
  have h0 := hf.at0
  have h1 := hf.row (show r < 7 by omega)
  have h2 := hf.col (show c < 7 by omega)
  have l1 := rowM_lt hb hr
  have l2 := colM_lt hb hc
  unfold rowF at h1
  unfold colF at h2
  rw [if_pos hr] at h1
  rw [if_pos hc] at h2
  clear hf
  have r0 : (0 : Int) ≤ (r : Int) := by omega
  have r7 : (r : Int) < 7 := by omega
  have c0 : (0 : Int) ≤ (c : Int) := by omega
  have c7 : (c : Int) < 7 := by omega
  obtain ⟨N, hN, hshl⟩ := shl_one n (by omega)
  have hN2 : N ≤ 128 := by rw [hN]; exact Nat.le_trans (Nat.pow_le_pow_right (by omega) hn) (by decide)
  have hN1 : 1 ≤ N := by rw [hN]; exact Nat.two_pow_pos n
  have HR : Hid (openM n b r c = nd (nd (N - 1) (rowM n b r)) (colM n b c)) := by rw [hN]; rfl
  have e5 := nd_le (N - 1) (rowM n b r)
  rw [← hN] at l1 l2
  have hb1 : bits .andNot .i64 ((N : Int) - 1) (rowM n b r : Int) = (nd (N - 1) (rowM n b r) : Int) := by
    rw [show (N : Int) - 1 = ((N - 1 : Nat) : Int) by omega, bits_nd _ _ (by omega) (by omega)]
  have hb2 : bits .andNot .i64 (nd (N - 1) (rowM n b r) : Int) (colM n b c : Int) = (openM n b r c : Int) := by
    rw [HR.out, bits_nd _ _ (by omega) (by omega)]
  generalize nd (N - 1) (rowM n b r) = M1 at *
  generalize openM n b r c = M2 at *
  generalize rowM n b r = R at *
  generalize colM n b c = C at *
  clear hN HR hb
  go_enter Tryd.func56, Tryd.ntmps56
  go_wp2
  go_quiet (fail)
  go_wp2
  go_ret
  exact ⟨rfl, _, rfl⟩
end Go.Proofs.YtiodednhadnekaaDoor
