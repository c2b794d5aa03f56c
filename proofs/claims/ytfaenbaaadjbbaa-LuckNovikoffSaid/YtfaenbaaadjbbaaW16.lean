/- Walks: great numbers: set, NewInt, Sign, Set, Neg. -/
import Derived.Test.YtfaenbaaadjbbaaW15
import Derived.Deep.RegionHeld3
import Derived.StillTailTactics
namespace Go.Proofs.Ytfaenbaaadjbbaa
open Go.RowKit

/-- Block p is a number's. -/
def IsBig (w : World) (p : Nat) : Prop := ∃ x y, w.heap[p]? = some (.cells #[x, y] 133 (0, 0))
/-- Block p is the number v. -/
def BigAt (w : World) (p : Nat) (v : Int) : Prop := ∃ A n c, w.heap[p]? = some (.cells #[.bool (decide (v < 0)), .slice A n c] 133 (0, 0)) ∧ n ≤ c ∧ Num w A n v.natAbs
theorem BigAt.is {w : World} {p : Nat} {v : Int} (h : BigAt w p v) : IsBig w p := by
  obtain ⟨A, n, c, h1, _⟩ := h
  exact ⟨_, _, h1⟩
theorem IsBig.cells {w : World} {p : Nat} (h : IsBig w p) : ∃ x y, w.cell? ⟨p, 0, none⟩ = some x ∧ w.cell? ⟨p, 1, none⟩ = some y ∧ w.frozen? ⟨p, 0, none⟩ = false ∧ w.frozen? ⟨p, 1, none⟩ = false := by
  obtain ⟨x, y, h⟩ := h
  refine ⟨x, y, by rw [cell_of_row w p 0 _ 133 (0, 0) h]; rfl, by rw [cell_of_row w p 1 _ 133 (0, 0) h]; rfl, ?_, ?_⟩ <;> simp [World.frozen?, h]
theorem BigAt.cells {w : World} {p : Nat} {v : Int} (h : BigAt w p v) : ∃ A n c, w.cell? ⟨p, 0, none⟩ = some (.bool (decide (v < 0))) ∧ w.cell? ⟨p, 1, none⟩ = some (.slice A n c) ∧ n ≤ c ∧ Num w A n v.natAbs := by
  obtain ⟨A, n, c, h1, h2, h3⟩ := h
  exact ⟨A, n, c, by rw [cell_of_row w p 0 _ 133 (0, 0) h1]; rfl, by rw [cell_of_row w p 1 _ 133 (0, 0) h1]; rfl, h2, h3⟩
theorem Num.keep {w w' : World} {A : Option Addr} {n v : Nat} (h : Num w A n v) (hk : ∀ (b : Nat) (cs : Array Value), w.heap[b]? = some (Obj.cells cs 108 (0, 0)) → w'.heap[b]? = some (Obj.cells cs 108 (0, 0))) : Num w' A n v := by
  obtain ⟨ds, h1, h2⟩ := h
  exact ⟨ds, h1.keep hk, h2⟩
theorem IsBig.ne {w : World} {p b : Nat} {cs : Array Value} (h : IsBig w p) (hb : w.heap[b]? = some (Obj.cells cs 108 (0, 0))) : b ≠ p := by
  rintro rfl
  obtain ⟨x, y, h⟩ := h
  rw [h] at hb
  injection hb with hb
  injection hb with _ hb
  exact absurd hb (by decide)
theorem grown_alloc (w : World) (o : Obj) (p : Option Nat) : w.grownBy (w.alloc o) p := World.grownBy_alloc w o p
theorem grown_below {w w' : World} (h : Below w.heap.size w w') (p : Option Nat) : w.grownBy w' p := ⟨h.os, h.tape, h.output, h.size, fun i hi _ => h.block i hi⟩
theorem grown_trans {a b c : World} {p : Option Nat} (h : a.grownBy b p) (k : b.grownBy c p) : a.grownBy c p :=
  ⟨k.os.trans h.os, k.tape.trans h.tape, k.output.trans h.output, Nat.le_trans h.size k.size, fun i hi hne => (k.block i (Nat.lt_of_lt_of_le hi h.size) hne).trans (h.block i hi hne)⟩
theorem grown_set (w : World) (p i : Nat) (v : Value) : w.grownBy (w.setCell ⟨p, i, none⟩ v) (some p) :=
  ⟨rfl, rfl, rfl, by simp [World.setCell], fun j _ hne => Below.heap_setCell w _ v j (fun e => hne (by rw [e]))⟩
theorem Num.chg {w w' : World} {A : Option Addr} {n v p : Nat} (h : Num w A n v) (hg : w.grownBy w' (some p)) (hp : IsBig w p) : Num w' A n v :=
  h.keep fun b _ hb => (hg.block b (heap_lt hb) (fun e => hp.ne hb (by injection e))).trans hb
theorem BigAt.chg {w w' : World} {p q : Nat} {v : Int} (h : BigAt w q v) (hg : w.grownBy w' (some p)) (hp : IsBig w p) (hne : q ≠ p) : BigAt w' q v := by
  obtain ⟨A, n, c, h1, h2, h3⟩ := h
  exact ⟨A, n, c, (hg.block q (heap_lt h1) (fun e => hne (by injection e))).trans h1, h2, h3.chg hg hp⟩
theorem BigAt.below {w w' : World} {q : Nat} {v : Int} (h : BigAt w q v) (hb : Below w.heap.size w w') : BigAt w' q v := by
  obtain ⟨A, n, c, h1, h2, h3⟩ := h
  exact ⟨A, n, c, (hb.block q (heap_lt h1)).trans h1, h2, h3.below hb⟩
theorem IsBig.below {w w' : World} {q : Nat} (h : IsBig w q) (hb : Below w.heap.size w w') : IsBig w' q := by
  obtain ⟨x, y, h1⟩ := h
  exact ⟨x, y, (hb.block q (heap_lt h1)).trans h1⟩
theorem IsBig.chg {w w' : World} {p q : Nat} (h : IsBig w q) (hg : w.grownBy w' (some p)) (hne : q ≠ p) : IsBig w' q := by
  obtain ⟨x, y, h1⟩ := h
  exact ⟨x, y, (hg.block q (heap_lt h1) (fun e => hne (by injection e))).trans h1⟩
theorem BigAt.drewN {w : World} {q : Nat} {v : Int} (h : BigAt w q v) (m : Nat) : BigAt (w.drewN m) q v := h
/-- Both fields are set. -/
def setBig (w : World) (p : Nat) (b : Bool) (s : Value) : World := (w.setCell ⟨p, 0, none⟩ (.bool b)).setCell ⟨p, 1, none⟩ s
theorem setBig_heap {w : World} {p : Nat} (h : IsBig w p) (b : Bool) (s : Value) : (setBig w p b s).heap[p]? = some (.cells #[.bool b, s] 133 (0, 0)) := by
  obtain ⟨x, y, h⟩ := h
  simp [setBig, World.setCell, Array.getElem?_modify, h]
theorem grown_setBig (w : World) (p : Nat) (b : Bool) (s : Value) : w.grownBy (setBig w p b s) (some p) := grown_trans (grown_set w p 0 _) (grown_set _ p 1 _)
theorem num_zero {w : World} {A : Option Addr} {n u : Nat} (h : Num w A n u) : u = 0 ↔ n = 0 := by
  obtain ⟨ds, h1, h2, h3⟩ := h
  rw [← h3, valW_zero h2, h1.len]
theorem big_set {w : World} {p : Nat} (hp : IsBig w p) (bl : Bool) {A : Option Addr} {n c u : Nat} (hn : Num w A n u) (hc : n ≤ c) : BigAt (setBig w p (bl && decide (0 < n)) (.slice A n c)) p (if bl then -(u : Int) else u) := by
  refine ⟨A, n, c, ?_, hc, ?_⟩
  · rw [setBig_heap hp]
    have := num_zero hn
    congr 5
    cases bl
    · simp
    · simp; omega
  · have : (if bl then -(u : Int) else u).natAbs = u := by cases bl <;> simp
    rw [this]
    exact hn.chg (grown_setBig w p _ _) hp
set_option maxHeartbeats 1000000 in
/-- (*big.Int).set -/
theorem f113_any (p : Nat) (bl : Bool) (A : Option Addr) (n c : Nat) (w : World) (hp : IsBig w p) (hn : n ≤ 10000) :
    Calls Try.prog 113 #[.pointer (some ⟨p, 0, none⟩), .bool bl, .slice A n c] w fun e w' => e = .returned (.pointer (some ⟨p, 0, none⟩)) ∧ w' = setBig w p (bl && decide (0 < n)) (.slice A n c) := by
  obtain ⟨x, y, h1, h2, h3, h4⟩ := hp.cells
  clear hp
  have hB : Hid (∀ b s, (w.setCell ⟨p, 0, none⟩ (.bool b)).setCell ⟨p, 1, none⟩ s = setBig w p b s) := fun _ _ => rfl
  cases bl
  · go_enter Try.func113, Try.ntmps113
    go_wp2
    go_ret
    exact ⟨rfl, hB.out _ _⟩
  · by_cases h0 : 0 < n
    · have hd : (true && decide (0 < n)) = true := by simp [h0]
      rw [hd]
      clear hd
      go_enter Try.func113, Try.ntmps113
      go_wp2
      go_ret
      exact ⟨rfl, hB.out _ _⟩
    · have hd : (true && decide (0 < n)) = false := by simp; omega
      obtain rfl : n = 0 := by omega
      rw [hd]
      clear hd h0
      go_enter Try.func113, Try.ntmps113
      go_wp2
      go_ret
      exact ⟨rfl, hB.out _ _⟩
set_option maxHeartbeats 1000000 in
/-- (*big.Int).Sign -/
theorem f109_any (p : Nat) (v : Int) (w : World) (hp : BigAt w p v) :
    Calls Try.prog 109 #[.pointer (some ⟨p, 0, none⟩)] w fun e w' => e = .returned (.int .i64 (cmp3 v 0)) ∧ w = w' := by
  obtain ⟨A, n, c, h1, h2, h3, h4⟩ := hp.cells
  have hz := num_zero h4
  have hsm : n ≤ 10000 := by obtain ⟨ds, h, _⟩ := h4; exact h.few
  clear hp h4
  rcases Int.lt_trichotomy v 0 with h | h | h
  · have hf : Hid (cmp3 v 0 = -1) := by unfold cmp3; rw [if_pos h]; rfl
    have hq : ((n : Int) == 0) = false := by simp; omega
    rw [decide_eq_true h] at h1
    clear hz h
    go_enter Try.func109, Try.ntmps109
    go_wp2
    go_ret
    exact ⟨ret_int hf.out.symm, rfl⟩
  · subst h
    have hf : Hid (cmp3 0 0 = 0) := by unfold cmp3; rfl
    obtain rfl : n = 0 := by omega
    clear hz
    go_enter Try.func109, Try.ntmps109
    go_wp2
    go_ret
    exact ⟨ret_int hf.out.symm, rfl⟩
  · have hf : Hid (cmp3 v 0 = 1) := by unfold cmp3; rw [if_neg (by omega), if_pos h]; rfl
    have hq : ((n : Int) == 0) = false := by simp; omega
    rw [decide_eq_false (by omega)] at h1
    clear hz h
    go_enter Try.func109, Try.ntmps109
    go_wp2
    go_ret
    exact ⟨ret_int hf.out.symm, rfl⟩
set_option maxHeartbeats 1000000 in
/-- big.NewInt, of a number that is not below 0 -/
theorem f106_any (v : Nat) (w : World) (hv : v < 1000000000) :
    Calls Try.prog 106 #[.int .i64 (v : Int)] w fun e w' => ∃ p, e = .returned (.pointer (some ⟨p, 0, none⟩)) ∧ w.heap.size ≤ p ∧ BigAt w' p v ∧ Below w.heap.size w w' := by
  have k112 := Lib.hid (f112_any v w (by unfold W32; omega))
  go_enter Try.func106, Try.ntmps106
  go_wp2_with fail
  refine k112.out.mono ?_
  rintro e w1 ⟨A, k, c, rfl, hnum, hk, hb⟩
  have HN := Lib.hid hnum
  have HB := Lib.hid hb
  have hsz := hb.size
  clear hnum hb
  go_wp2
  go_ret
  refine ⟨_, rfl, hsz, ⟨A, k, c, ?_, hk, ?_⟩, HB.out.alloc hsz _⟩
  · have : decide ((v : Int) < 0) = false := by simp
    rw [this]; exact heap_alloc_new _ _
  · rw [Int.natAbs_natCast]
    exact HN.out.below (below_alloc _ _)
theorem new_big (w : World) : BigAt (w.alloc (.cells #[.bool false, .slice none 0 0] 133)) w.heap.size 0 :=
  ⟨none, 0, 0, heap_alloc_new w _, Nat.le_refl _, [], ⟨rfl, by omega, fun j => by exact W32_pos, fun h => absurd h (by omega)⟩, .inl rfl, rfl⟩
end Go.Proofs.Ytfaenbaaadjbbaa
