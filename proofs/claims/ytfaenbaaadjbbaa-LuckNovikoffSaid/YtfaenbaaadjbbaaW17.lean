/- Walks: great numbers: Set, Neg, Add, Sub, Mul, Exp. -/
import Derived.Test.YtfaenbaaadjbbaaW16
namespace Go.Proofs.Ytfaenbaaadjbbaa
open Go.RowKit

/-- A number was set, and nothing else that was there has changed. -/
def BigRet (w : World) (p : Nat) (v : Int) (e : Ending) (w' : World) : Prop := e = .returned (.pointer (some ⟨p, 0, none⟩)) ∧ BigAt w' p v ∧ w.grownBy w' (some p)
theorem set_ret {w W : World} {p : Nat} (hp : IsBig W p) (bl : Bool) {A : Option Addr} {n c u : Nat} {v : Int} (hn : Num W A n u) (hc : n ≤ c) (hg : w.grownBy W (some p)) (hv : (if bl then -(u : Int) else u) = v) :
    BigRet w p v (.returned (.pointer (some ⟨p, 0, none⟩))) (setBig W p (bl && decide (0 < n)) (.slice A n c)) := by
  subst hv
  exact ⟨rfl, big_set hp bl hn hc, grown_trans hg (grown_setBig W p _ _)⟩
theorem num_few {w : World} {A : Option Addr} {n u : Nat} (h : Num w A n u) : n ≤ 10000 := by obtain ⟨ds, h, _⟩ := h; exact h.few
set_option maxRecDepth 100000 in
set_option maxHeartbeats 1000000 in
/-- (*big.Int).Set -/
theorem f110_any (p q : Nat) (v : Int) (w : World) (hp : IsBig w p) (hq : BigAt w q v) :
    Calls Try.prog 110 #[.pointer (some ⟨p, 0, none⟩), .pointer (some ⟨q, 0, none⟩)] w (BigRet w p v) := by
  obtain ⟨A, n, c, h1, h2, hc, hn⟩ := hq.cells
  have hfew := num_few hn
  have k113 : Hid (∀ W : World, W.heap = w.heap → Calls Try.prog 113 #[.pointer (some ⟨p, 0, none⟩), .bool (decide (v < 0)), .slice A n c] W fun e w' => e = .returned (.pointer (some ⟨p, 0, none⟩)) ∧ w' = setBig W p (decide (v < 0) && decide (0 < n)) (.slice A n c)) := fun W hW =>
    f113_any p _ A n c W (by obtain ⟨x, y, h⟩ := hp; exact ⟨x, y, by rw [hW]; exact h⟩) (by omega)
  have HP := Lib.hid hp
  have HN := Lib.hid hn
  generalize hb : decide (v < 0) = b at *
  have HB := Lib.hid hb
  clear hp hq hn hb
  go_enter Try.func110, Try.ntmps110
  go_wp2
  go_still_tail 9, (by kernel_rfl)
  change wpList _ _ _ _ _ w.drew
  go_wp2_with fail
  refine (k113.out w.drew rfl).mono ?_
  rintro e w' ⟨rfl, rfl⟩
  go_wp2
  go_ret
  exact set_ret (W := w.drew) HP.out b (HN.out.drewN 1) hc (grown_below (below_drewN (Below.refl _ _) 1) _) (by rw [← HB.out]; by_cases h : v < 0 <;> simp [h] <;> omega)
set_option maxRecDepth 100000 in
set_option maxHeartbeats 1000000 in
/-- (*big.Int).Neg -/
theorem f117_any (p q : Nat) (v : Int) (w : World) (hp : IsBig w p) (hq : BigAt w q v) :
    Calls Try.prog 117 #[.pointer (some ⟨p, 0, none⟩), .pointer (some ⟨q, 0, none⟩)] w (BigRet w p (-v)) := by
  obtain ⟨A, n, c, h1, h2, hc, hn⟩ := hq.cells
  have hfew := num_few hn
  have k113 : Hid (∀ W : World, W.heap = w.heap → Calls Try.prog 113 #[.pointer (some ⟨p, 0, none⟩), .bool (!decide (v < 0)), .slice A n c] W fun e w' => e = .returned (.pointer (some ⟨p, 0, none⟩)) ∧ w' = setBig W p (!decide (v < 0) && decide (0 < n)) (.slice A n c)) := fun W hW =>
    f113_any p _ A n c W (by obtain ⟨x, y, h⟩ := hp; exact ⟨x, y, by rw [hW]; exact h⟩) (by omega)
  have HP := Lib.hid hp
  have HN := Lib.hid hn
  generalize hb : decide (v < 0) = b at *
  have HB := Lib.hid hb
  clear hp hq hn hb
  go_enter Try.func117, Try.ntmps117
  go_wp2
  go_still_tail 10, (by kernel_rfl)
  change wpList _ _ _ _ _ w.drew
  go_wp2_with fail
  refine (k113.out w.drew rfl).mono ?_
  rintro e w' ⟨rfl, rfl⟩
  go_wp2
  go_ret
  exact set_ret (W := w.drew) HP.out (!b) (HN.out.drewN 1) hc (grown_below (below_drewN (Below.refl _ _) 1) _) (by rw [← HB.out]; by_cases h : v < 0 <;> simp [h] <;> omega)
theorem IsBig.same {w W : World} {p : Nat} (h : IsBig w p) (hW : W.heap = w.heap) : IsBig W p := by
  obtain ⟨x, y, h⟩ := h
  exact ⟨x, y, by rw [hW]; exact h⟩
theorem Num.same {w W : World} {A : Option Addr} {n u : Nat} (h : Num w A n u) (hW : W.heap = w.heap) : Num W A n u := h.keep fun b cs hb => by rw [hW]; exact hb
set_option maxRecDepth 100000 in
set_option maxHeartbeats 4000000 in
/-- (*big.Int).Mul -/
theorem f111_any (p q r : Nat) (x y : Int) (w : World) (hp : IsBig w p) (hq : BigAt w q x) (hr : BigAt w r y) (hpq : q ≠ p) (hpr : r ≠ p) (hx : x.natAbs < W32 ^ 4000) (hy : y.natAbs < W32 ^ 4000) :
    Calls Try.prog 111 #[.pointer (some ⟨p, 0, none⟩), .pointer (some ⟨q, 0, none⟩), .pointer (some ⟨r, 0, none⟩)] w (BigRet w p (x * y)) := by
  obtain ⟨A, n, c, h1, h2, hc, hn⟩ := hq.cells
  obtain ⟨B, m, d, g1, g2, gc, gn⟩ := hr.cells
  have hf1 : n ≤ 4000 := by obtain ⟨ds, e1, e2, e3⟩ := hn; rw [← e1.len]; exact norm_len e2 4000 (by rw [e3]; exact hx)
  have hf2 : m ≤ 4000 := by obtain ⟨ds, e1, e2, e3⟩ := gn; rw [← e1.len]; exact norm_len e2 4000 (by rw [e3]; exact hy)
  have k118 : Hid (∀ W : World, W.heap = w.heap → Calls Try.prog 118 #[.slice A n c, .slice B m d] W (NumNew W (x.natAbs * y.natAbs))) := fun W hW => f118_any A B n c m d _ _ W (hn.same hW) (gn.same hW) hf1 hf2
  have HP := Lib.hid hp
  have hsg : Hid (∀ u : Nat, u = x.natAbs * y.natAbs → (if (!(decide (x < 0) == decide (y < 0))) then -(u : Int) else u) = x * y) := fun u hu => by
    rw [hu, Int.natCast_mul]
    by_cases hx : x < 0
    · by_cases hy : y < 0
      · have e1 : (x.natAbs : Int) = -x := by omega
        have e2 : (y.natAbs : Int) = -y := by omega
        simp [hx, hy, e1, e2, Int.mul_neg, Int.neg_mul]
      · have e1 : (x.natAbs : Int) = -x := by omega
        have e2 : (y.natAbs : Int) = y := by omega
        simp [hx, hy, e1, e2, Int.neg_mul]
    · by_cases hy : y < 0
      · have e1 : (x.natAbs : Int) = x := by omega
        have e2 : (y.natAbs : Int) = -y := by omega
        simp [hx, hy, e1, e2, Int.mul_neg]
      · have e1 : (x.natAbs : Int) = x := by omega
        have e2 : (y.natAbs : Int) = y := by omega
        simp [hx, hy, e1, e2]
  generalize decide (x < 0) = b1 at *
  generalize decide (y < 0) = b2 at *
  generalize hz : x * y = z at *
  clear hp hq hn hr gn hx hy hz
  have R6 : Hid (∀ W w1 : World, W.heap = w.heap → Below W.heap.size W w1 → w1.cell? ⟨q, 0, none⟩ = some (.bool b1) ∧ w1.cell? ⟨q, 1, none⟩ = some (.slice A n c) ∧ w1.cell? ⟨r, 0, none⟩ = some (.bool b2) ∧ w1.cell? ⟨r, 1, none⟩ = some (.slice B m d)) := fun W w1 hW hb => by
    have e : ∀ (b o : Nat) v, w.cell? ⟨b, o, none⟩ = some v → w1.cell? ⟨b, o, none⟩ = some v := fun b o v h => by
      have hlt := lt_of_cell h
      have h2 : W.cell? ⟨b, o, none⟩ = some v := by
        unfold World.cell? at h ⊢
        rw [hW]; exact h
      exact (hb.cell (lt_of_cell h2)).trans h2
    exact ⟨e _ _ _ h1, e _ _ _ h2, e _ _ _ g1, e _ _ _ g2⟩
  have R7 : Hid (∀ w1 : World, ∀ bb ss, w1.cell? ⟨q, 0, none⟩ = some (.bool b1) ∧ w1.cell? ⟨q, 1, none⟩ = some (.slice A n c) ∧ w1.cell? ⟨r, 0, none⟩ = some (.bool b2) ∧ w1.cell? ⟨r, 1, none⟩ = some (.slice B m d) →
      (setBig w1 p bb ss).cell? ⟨q, 0, none⟩ = some (.bool b1) ∧ (setBig w1 p bb ss).cell? ⟨q, 1, none⟩ = some (.slice A n c) ∧ (setBig w1 p bb ss).cell? ⟨r, 0, none⟩ = some (.bool b2) ∧ (setBig w1 p bb ss).cell? ⟨r, 1, none⟩ = some (.slice B m d)) := fun w1 bb ss ⟨a1, a2, a3, a4⟩ =>
    ⟨(grown_setBig w1 p bb ss).cell a1 (fun e => hpq (by injection e)), (grown_setBig w1 p bb ss).cell a2 (fun e => hpq (by injection e)), (grown_setBig w1 p bb ss).cell a3 (fun e => hpr (by injection e)), (grown_setBig w1 p bb ss).cell a4 (fun e => hpr (by injection e))⟩
  clear hpq hpr
  go_enter Try.func111, Try.ntmps111
  go_wp2
  go_region_held3 (fun w' => w'.cell? ⟨q, 0, none⟩ = some (.bool b1) ∧ w'.cell? ⟨q, 1, none⟩ = some (.slice A n c) ∧ w'.cell? ⟨r, 0, none⟩ = some (.bool b2) ∧ w'.cell? ⟨r, 1, none⟩ = some (.slice B m d))
    (first | go_keep | exact R6.out w.drew _ rfl hb | exact R7.out _ _ _ (R6.out w.drew _ rfl hb))
    (first | (go_at_call 118; refine (k118.out w.drew rfl).mono ?_; rintro e w1 ⟨A', k, c', rfl, hnum, hk, hb⟩) | (go_at_call 113; refine (f113_any p (!(b1 == b2)) A' k c' w1 (IsBig.below (w := w.drew) HP.out hb) (num_few hnum)).mono ?_; rintro e w' ⟨rfl, rfl⟩))
  go_wp2
  go_ret
  exact set_ret (IsBig.below (w := w.drew) HP.out hb) (!(b1 == b2)) hnum hk (grown_below (below_step (a := w) (b := w.drew) (below_drewN (Below.refl _ _) 1) hb) _) (hsg.out _ rfl)
end Go.Proofs.Ytfaenbaaadjbbaa
