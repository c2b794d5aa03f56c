/- Walks: the filler: put. -/
import Derived.Test.YtiodednhadnekaaDoorW7
import Derived.StillTailTactics
namespace Go.Proofs.YtiodednhadnekaaDoor
open Go.RowKit Go.Deep

theorem only_drewN {a w : World} {row : Option Nat} (h : a.grownBy w row) (n : Nat) : a.grownBy (w.drewN n) row := ⟨h.os, h.tape, h.output, h.size, h.block⟩
theorem only_drew {a w : World} {row : Option Nat} (h : a.grownBy w row) : a.grownBy w.drew row := ⟨h.os, h.tape, h.output, h.size, h.block⟩
theorem only_set {a w : World} {g : Nat} (h : a.grownBy w (some g)) (i : Nat) (u : Value) : a.grownBy (w.setCell ⟨g, i, none⟩ u) (some g) :=
  ⟨h.os, h.tape, h.output, by simpa [World.setCell] using h.size, fun i' hi hne => (Below.heap_setCell w ⟨g, i, none⟩ u i' (by rintro rfl; exact hne rfl)).trans (h.block i' hi hne)⟩
theorem only_trans {a b c : World} {row : Option Nat} (h : a.grownBy b row) (k : b.grownBy c row) : a.grownBy c row :=
  ⟨k.os.trans h.os, k.tape.trans h.tape, k.output.trans h.output, Nat.le_trans h.size k.size, fun i hi hne => (k.block i (Nat.lt_of_lt_of_le hi h.size) hne).trans (h.block i hi hne)⟩
set_option maxRecDepth 100000 in
set_option maxHeartbeats 2000000 in
/-- (*filler).put: there -/
theorem f58_put (p n r c x : Nat) (X : Nat → Nat → Int) (R C : Nat → Nat) (w : World) (hf : Fil w p n X R C) (hr : r < 7) (hc : c < 7) (hx : x < 7) (hR : R r < 128) (hC : C c < 128) :
    Calls Tryd.prog 58 #[.pointer (some ⟨p, 0, none⟩), .int .i64 (r : Int), .int .i64 (c : Int), .int .i64 (x : Int), .bool true] w fun e w' => e = .returned (.tuple #[]) ∧ w.grownBy w' (some p) ∧
      Fil w' p n (fun i j => if i = r ∧ j = c then (x : Int) else X i j) (fun i => if i = r then R r ||| 2 ^ x else R i) (fun i => if i = c then C c ||| 2 ^ x else C i) := by
  obtain ⟨N, hN, hshl⟩ := shl_one x (by omega)
  have hN2 : N ≤ 128 := by rw [hN]; exact Nat.le_trans (Nat.pow_le_pow_right (by omega) (show x ≤ 7 by omega)) (by decide)
  have h0 := hf.at_ hr hc
  have g1 := hf.frozen (1 + r * 7 + c)
  obtain ⟨w1, hw1⟩ : ∃ z, z = w.setCell ⟨p, 1 + r * 7 + c, none⟩ (.int .i64 ((x : Int))) := ⟨_, rfl⟩
  have F1 := hf.setAt hr hc ((x : Int))
  rw [← hw1] at F1
  have G1 : Hid (w.grownBy w1 (some p)) := by rw [hw1]; exact only_set (World.grownBy.refl w _) _ _
  have hc1 := F1.row hr
  have hf1 := F1.frozen (50 + r)
  have hb1 : bits .or .i64 (R r : Int) (N : Int) = (((R r ||| 2 ^ x : Nat)) : Int) := by rw [hN]; exact bits_or_nat _ _ (by omega) (by rw [← hN]; omega)
  obtain ⟨V1, hV1⟩ : ∃ z, z = R r ||| 2 ^ x := ⟨_, rfl⟩
  rw [← hV1] at hb1 ⊢
  obtain ⟨w2, hw2⟩ : ∃ z, z = (w1.setCell ⟨p, 50 + r, none⟩ (.int .i64 (V1 : Int))).drew := ⟨_, rfl⟩
  have F2 := (F1.setRow hr V1).drew
  rw [← hw2] at F2
  have G2 : Hid (w.grownBy w2 (some p)) := by rw [hw2]; exact only_drew (only_set G1.out _ _)
  have hc2 := F2.col hc
  have hf2 := F2.frozen (57 + c)
  have hb2 : bits .or .i64 (C c : Int) (N : Int) = (((C c ||| 2 ^ x : Nat)) : Int) := by rw [hN]; exact bits_or_nat _ _ (by omega) (by rw [← hN]; omega)
  obtain ⟨V2, hV2⟩ : ∃ z, z = C c ||| 2 ^ x := ⟨_, rfl⟩
  rw [← hV2] at hb2 ⊢
  have F3 := Lib.hid (F2.setCol hc V2).drew
  have G3 : Hid (w.grownBy (w2.setCell ⟨p, 57 + c, none⟩ (.int .i64 (V2 : Int))).drew (some p)) := only_drew (only_set G2.out _ _)
  have r0 : (0 : Int) ≤ (r : Int) := by omega
  have r7 : (r : Int) < 7 := by omega
  have c0 : (0 : Int) ≤ (c : Int) := by omega
  have c7 : (c : Int) < 7 := by omega
  generalize R r = Rr at *
  generalize C c = Cc at *
  clear hf F1 F2 G1 G2 hN hV1 hV2
  go_enter Tryd.func58, Tryd.ntmps58
  go_wp2
  rw [← hw1]
  clear hw1
  go_still_tail 12, (by kernel_rfl)
  change wpList _ _ _ _ _ w1.drew
  go_wp2_with fail
  rw [← hw2]
  clear hw2
  go_still_tail 12, (by kernel_rfl)
  change wpList _ _ _ _ _ w2.drew
  go_wp2_with fail
  refine bodyPost_ret (results_none rfl _ _ _) rfl ?_
  exact ⟨rfl, G3.out, F3.out⟩
set_option maxRecDepth 100000 in
set_option maxHeartbeats 2000000 in
/-- (*filler).put: not there -/
theorem f58_take (p n r c x : Nat) (X : Nat → Nat → Int) (R C : Nat → Nat) (w : World) (hf : Fil w p n X R C) (hr : r < 7) (hc : c < 7) (hx : x < 7) (hR : R r < 128) (hC : C c < 128) :
    Calls Tryd.prog 58 #[.pointer (some ⟨p, 0, none⟩), .int .i64 (r : Int), .int .i64 (c : Int), .int .i64 (x : Int), .bool false] w fun e w' => e = .returned (.tuple #[]) ∧ w.grownBy w' (some p) ∧
      Fil w' p n (fun i j => if i = r ∧ j = c then -1 else X i j) (fun i => if i = r then nd (R r) (2 ^ x) else R i) (fun i => if i = c then nd (C c) (2 ^ x) else C i) := by
  obtain ⟨N, hN, hshl⟩ := shl_one x (by omega)
  have hN2 : N ≤ 128 := by rw [hN]; exact Nat.le_trans (Nat.pow_le_pow_right (by omega) (show x ≤ 7 by omega)) (by decide)
  have h0 := hf.at_ hr hc
  have g1 := hf.frozen (1 + r * 7 + c)
  obtain ⟨w1, hw1⟩ : ∃ z, z = w.setCell ⟨p, 1 + r * 7 + c, none⟩ (.int .i64 (-1)) := ⟨_, rfl⟩
  have F1 := hf.setAt hr hc (-1)
  rw [← hw1] at F1
  have G1 : Hid (w.grownBy w1 (some p)) := by rw [hw1]; exact only_set (World.grownBy.refl w _) _ _
  have hc1 := F1.row hr
  have hf1 := F1.frozen (50 + r)
  have hb1 : bits .andNot .i64 (R r : Int) (N : Int) = (((nd (R r) (2 ^ x) : Nat)) : Int) := by rw [hN]; exact bits_nd _ _ (by omega) (by rw [← hN]; omega)
  obtain ⟨V1, hV1⟩ : ∃ z, z = nd (R r) (2 ^ x) := ⟨_, rfl⟩
  rw [← hV1] at hb1 ⊢
  obtain ⟨w2, hw2⟩ : ∃ z, z = (w1.setCell ⟨p, 50 + r, none⟩ (.int .i64 (V1 : Int))).drew := ⟨_, rfl⟩
  have F2 := (F1.setRow hr V1).drew
  rw [← hw2] at F2
  have G2 : Hid (w.grownBy w2 (some p)) := by rw [hw2]; exact only_drew (only_set G1.out _ _)
  have hc2 := F2.col hc
  have hf2 := F2.frozen (57 + c)
  have hb2 : bits .andNot .i64 (C c : Int) (N : Int) = (((nd (C c) (2 ^ x) : Nat)) : Int) := by rw [hN]; exact bits_nd _ _ (by omega) (by rw [← hN]; omega)
  obtain ⟨V2, hV2⟩ : ∃ z, z = nd (C c) (2 ^ x) := ⟨_, rfl⟩
  rw [← hV2] at hb2 ⊢
  have F3 := Lib.hid (F2.setCol hc V2).drew
  have G3 : Hid (w.grownBy (w2.setCell ⟨p, 57 + c, none⟩ (.int .i64 (V2 : Int))).drew (some p)) := only_drew (only_set G2.out _ _)
  have r0 : (0 : Int) ≤ (r : Int) := by omega
  have r7 : (r : Int) < 7 := by omega
  have c0 : (0 : Int) ≤ (c : Int) := by omega
  have c7 : (c : Int) < 7 := by omega
  generalize R r = Rr at *
  generalize C c = Cc at *
  clear hf F1 F2 G1 G2 hN hV1 hV2
  go_enter Tryd.func58, Tryd.ntmps58
  go_wp2
  rw [← hw1]
  clear hw1
  go_still_tail 12, (by kernel_rfl)
  change wpList _ _ _ _ _ w1.drew
  go_wp2_with fail
  rw [← hw2]
  clear hw2
  go_still_tail 12, (by kernel_rfl)
  change wpList _ _ _ _ _ w2.drew
  go_wp2_with fail
  go_end0
  exact ⟨rfl, G3.out, F3.out⟩
theorem FilB.lt {w : World} {p n : Nat} {b : List (List Int)} (h : FilB w p n b) : p < w.heap.size := Fil.lt h
/-- A crop is put at a place of a bed. -/
theorem f58_on (p n r c x : Nat) (b : List (List Int)) (w : World) (hf : FilB w p n b) (hb : IsBed n b) (hn : n ≤ 7) (hr : r < n) (hc : c < n) (hx : x < n) (h0 : gAt b r c < 0) :
    Calls Tryd.prog 58 #[.pointer (some ⟨p, 0, none⟩), .int .i64 (r : Int), .int .i64 (c : Int), .int .i64 (x : Int), .bool true] w fun e w' => e = .returned (.tuple #[]) ∧ w.grownBy w' (some p) ∧ FilB w' p n (gset b r c x) := by
  have l1 := rowM_lt hb hr
  have l2 := colM_lt hb hc
  have l3 : 2 ^ n ≤ 128 := Nat.le_trans (Nat.pow_le_pow_right (by omega) hn) (by decide)
  refine (f58_put p n r c x _ _ _ w hf (by omega) (by omega) (by omega) (by unfold rowF; rw [if_pos hr]; omega) (by unfold colF; rw [if_pos hc]; omega)).mono ?_
  rintro e w' ⟨h1, h2, h3⟩
  refine ⟨h1, h2, Fil.congr h3 (fun i j _ _ => ?_) (fun i _ => ?_) (fun i _ => ?_)⟩
  · unfold atF
    rw [gAt_gset hb.shape hr hc]
    by_cases e : i = r ∧ j = c
    · rw [if_pos e, if_pos e, if_pos ⟨by omega, by omega⟩]
    · rw [if_neg e, if_neg e]
  · unfold rowF
    rw [rowM_put hb.shape hr hc h0]
    by_cases e : i = r
    · rw [if_pos e, if_pos (by omega), if_pos e, if_pos hr]
    · rw [if_neg e, if_neg e]
  · unfold colF
    rw [colM_put hb.shape hr hc h0]
    by_cases e : i = c
    · rw [if_pos e, if_pos (by omega), if_pos e, if_pos hc]
    · rw [if_neg e, if_neg e]
/-- It is taken away. -/
theorem f58_off (p n r c x : Nat) (b : List (List Int)) (w : World) (hf : FilB w p n (gset b r c x)) (hb : IsBed n b) (hn : n ≤ 7) (hr : r < n) (hc : c < n) (hx : x < n) (h0 : gAt b r c < 0) (hfr : freeP n b r c x) :
    Calls Tryd.prog 58 #[.pointer (some ⟨p, 0, none⟩), .int .i64 (r : Int), .int .i64 (c : Int), .int .i64 (x : Int), .bool false] w fun e w' => e = .returned (.tuple #[]) ∧ w.grownBy w' (some p) ∧ FilB w' p n b := by
  have hb2 := hb.put hr hc (x := (x : Int)) (by omega) (by omega) hfr
  have l1 := rowM_lt hb2 hr
  have l2 := colM_lt hb2 hc
  have l3 : 2 ^ n ≤ 128 := Nat.le_trans (Nat.pow_le_pow_right (by omega) hn) (by decide)
  have h01 := (hb.lo r c hr hc).1
  refine (f58_take p n r c x _ _ _ w hf (by omega) (by omega) (by omega) (by unfold rowF; rw [if_pos hr]; omega) (by unfold colF; rw [if_pos hc]; omega)).mono ?_
  rintro e w' ⟨h1, h2, h3⟩
  refine ⟨h1, h2, Fil.congr h3 (fun i j _ _ => ?_) (fun i _ => ?_) (fun i _ => ?_)⟩
  · unfold atF
    rw [gAt_gset hb.shape hr hc]
    by_cases e : i = r ∧ j = c
    · rw [if_pos e, if_pos ⟨by omega, by omega⟩, e.1, e.2]; omega
    · rw [if_neg e, if_neg e]
  · unfold rowF
    rw [rowM_put hb.shape hr hc h0, rowM_put hb.shape hr hc h0]
    by_cases e : i = r
    · rw [if_pos e, if_pos (by omega), if_pos hr, if_pos rfl, nd_or (rowM_take hfr), e]
    · rw [if_neg e, if_neg e]
  · unfold colF
    rw [colM_put hb.shape hr hc h0, colM_put hb.shape hr hc h0]
    by_cases e : i = c
    · rw [if_pos e, if_pos (by omega), if_pos hc, if_pos rfl, nd_or (colM_take hfr), e]
    · rw [if_neg e, if_neg e]
end Go.Proofs.YtiodednhadnekaaDoor
