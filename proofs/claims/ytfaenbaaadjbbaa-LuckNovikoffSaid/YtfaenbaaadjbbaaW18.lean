/- Walks: great numbers: Add. -/
import Derived.Test.YtfaenbaaadjbbaaW17
import Derived.Deep.DrawnRows
namespace Go.Proofs.Ytfaenbaaadjbbaa
open Go.RowKit
attribute [local go_sem ↓] Go.wp_at_zero Go.wp_at_succ

theorem not_of_ne {a b : Bool} (h : ¬ a = b) : a = !b := by cases a <;> cases b <;> simp_all
theorem cmp3_ge {a b : Nat} (h : b ≤ a) : 0 ≤ cmp3 (a : Int) (b : Int) := by unfold cmp3; split <;> (try split) <;> omega
theorem cmp3_lt {a b : Nat} (h : a < b) : cmp3 (a : Int) (b : Int) < 0 := by unfold cmp3; rw [if_pos (by omega)]; omega
theorem add_same {x y : Int} (h : decide (x < 0) = decide (y < 0)) : (if decide (x < 0) = true then -((x.natAbs + y.natAbs : Nat) : Int) else ((x.natAbs + y.natAbs : Nat) : Int)) = x + y := by
  by_cases hx : x < 0
  · rw [decide_eq_true hx] at h ⊢
    have hy : y < 0 := of_decide_eq_true h.symm
    rw [if_pos rfl]; omega
  · rw [decide_eq_false hx] at h ⊢
    have hy : ¬ y < 0 := of_decide_eq_false h.symm
    rw [if_neg (by decide)]; omega
theorem add_diff {x y : Int} (h : decide (x < 0) = !decide (y < 0)) (hle : y.natAbs ≤ x.natAbs) : (if decide (x < 0) = true then -((x.natAbs - y.natAbs : Nat) : Int) else ((x.natAbs - y.natAbs : Nat) : Int)) = x + y := by
  by_cases hx : x < 0
  · rw [decide_eq_true hx] at h ⊢
    have hy : ¬ y < 0 := fun hy => by rw [decide_eq_true hy] at h; cases h
    rw [if_pos rfl]; omega
  · rw [decide_eq_false hx] at h ⊢
    have hy : y < 0 := Classical.byContradiction fun hy => by rw [decide_eq_false hy] at h; cases h
    rw [if_neg (by decide)]; omega
set_option maxRecDepth 100000 in
set_option maxHeartbeats 4000000 in
/-- Add, of two with one sign -/
theorem f107_same (p q r : Nat) (x y : Int) (w : World) (hp : IsBig w p) (hq : BigAt w q x) (hr : BigAt w r y) (hx : x.natAbs < W32 ^ 4000) (hy : y.natAbs < W32 ^ 4000) (hsame : decide (x < 0) = decide (y < 0)) :
    Calls Try.prog 107 #[.pointer (some ⟨p, 0, none⟩), .pointer (some ⟨q, 0, none⟩), .pointer (some ⟨r, 0, none⟩)] w (BigRet w p (x + y)) := by
  obtain ⟨A, n, c, h1, h2, hc, hn⟩ := hq.cells
  obtain ⟨B, m, d, g1, g2, gc, gn⟩ := hr.cells
  have hf1 : n ≤ 4000 := by obtain ⟨ds, e1, e2, e3⟩ := hn; rw [← e1.len]; exact norm_len e2 4000 (by rw [e3]; exact hx)
  have hf2 : m ≤ 4000 := by obtain ⟨ds, e1, e2, e3⟩ := gn; rw [← e1.len]; exact norm_len e2 4000 (by rw [e3]; exact hy)
  have k114 : Hid (∀ W : World, W.heap = w.heap → Calls Try.prog 114 #[.slice A n c, .slice B m d] W (NumNew W (x.natAbs + y.natAbs))) := fun W hW => f114_any A B n c m d _ _ W (hn.same hW) (gn.same hW) (by omega) (by omega)
  have k115 : Hid (∀ W : World, W.heap = w.heap → Calls Try.prog 115 #[.slice A n c, .slice B m d] W fun e w' => e = .returned (.int .i64 (cmp3 x.natAbs y.natAbs)) ∧ ∃ q, w' = W.drewN q) := fun W hW => f115_any A B n c m d _ _ W (hn.same hW) (gn.same hW)
  have k116a : Hid (∀ W : World, W.heap = w.heap → y.natAbs ≤ x.natAbs → Calls Try.prog 116 #[.slice A n c, .slice B m d] W (NumNew W (x.natAbs - y.natAbs))) := fun W hW hle => f116_any A B n c m d _ _ W (hn.same hW) (gn.same hW) hle (by omega)
  have k116b : Hid (∀ W : World, W.heap = w.heap → x.natAbs ≤ y.natAbs → Calls Try.prog 116 #[.slice B m d, .slice A n c] W (NumNew W (y.natAbs - x.natAbs))) := fun W hW hle => f116_any B A m d n c _ _ W (gn.same hW) (hn.same hW) hle (by omega)
  have HP := Lib.hid hp
  have HG : Hid (∀ n : Nat, w.grownBy (w.drewN n) (some p)) := fun n => grown_below (below_drewN (Below.refl _ _) n) _
  have hs1 : Hid (decide (x < 0) = decide (y < 0) → _) := add_same (x := x) (y := y)
  have hs2 : Hid (decide (x < 0) = !decide (y < 0) → y.natAbs ≤ x.natAbs → _) := add_diff (x := x) (y := y)
  have hs3 : Hid (decide (y < 0) = !decide (x < 0) → x.natAbs ≤ y.natAbs → (if decide (y < 0) = true then -((y.natAbs - x.natAbs : Nat) : Int) else ((y.natAbs - x.natAbs : Nat) : Int)) = x + y) := fun h1 h2 => by rw [Int.add_comm]; exact add_diff (x := y) (y := x) h1 h2
  generalize x + y = z at *
  generalize hX : x.natAbs = X at *
  generalize hY : y.natAbs = Y at *
  generalize decide (x < 0) = b1 at *
  generalize decide (y < 0) = b2 at *
  have R6 : Hid (∀ W w1 : World, W.heap = w.heap → Below W.heap.size W w1 → w1.cell? ⟨q, 0, none⟩ = some (.bool b1) ∧ w1.cell? ⟨q, 1, none⟩ = some (.slice A n c) ∧ w1.cell? ⟨r, 0, none⟩ = some (.bool b2) ∧ w1.cell? ⟨r, 1, none⟩ = some (.slice B m d)) := fun W w1 hW hb => by
    have e : ∀ (b o : Nat) v, w.cell? ⟨b, o, none⟩ = some v → w1.cell? ⟨b, o, none⟩ = some v := fun b o v h => by
      have hlt := lt_of_cell h
      have h2 : W.cell? ⟨b, o, none⟩ = some v := by
        unfold World.cell? at h ⊢
        rw [hW]; exact h
      exact (hb.cell (lt_of_cell h2)).trans h2
    exact ⟨e _ _ _ h1, e _ _ _ h2, e _ _ _ g1, e _ _ _ g2⟩
  clear hp hq hn hr gn hx hy hX hY
  subst hsame
  have hs := Lib.hid (hs1.out rfl)
  have hq : (b1 == b1) = true := by simp
  clear hs1 hs2 hs3 k115 k116a k116b
  go_enter Try.func107, Try.ntmps107
  go_wp2
  go_quiet (fail)
  rename_i nq
  have j1 : (w.drewN nq).cell? ⟨q, 0, none⟩ = some (.bool b1) := h1
  have j2 : (w.drewN nq).cell? ⟨q, 1, none⟩ = some (.slice A n c) := h2
  have j3 : (w.drewN nq).cell? ⟨r, 0, none⟩ = some (.bool b1) := g1
  have j4 : (w.drewN nq).cell? ⟨r, 1, none⟩ = some (.slice B m d) := g2
  have JP : Hid (IsBig (w.drewN nq) p) := HP.out
  have JG := Lib.hid (HG.out nq)
  have K := Lib.hid (fun W (hW : W.heap = (w.drewN nq).heap) => k114.out W hW)
  have J6 := Lib.hid (fun W w1 (hW : W.heap = (w.drewN nq).heap) hb => R6.out W w1 hW hb)
  generalize w.drewN nq = W at *
  clear h1 h2 g1 g2
  go_wp2
  go_region_with ((first | (go_at_call 114; refine (K.out W.drew rfl).mono ?_; rintro e w1 ⟨A', k, c', rfl, hnum, hk, hb⟩; obtain ⟨s1, s2, s3, s4⟩ := J6.out W.drew _ rfl hb; have HN := Lib.hid hnum; have HB := Lib.hid hb; clear hnum hb) | (go_at_call 113; refine (f113_any p b1 A' k c' w1 (IsBig.below (w := W.drew) JP.out HB.out) (num_few HN.out)).mono ?_; rintro e w' ⟨rfl, rfl⟩)))
  all_goals
    go_wp2
    go_ret
    exact set_ret (IsBig.below (w := W.drew) JP.out HB.out) b1 HN.out hk (grown_trans JG.out (grown_below (below_step (a := W) (b := W.drew) (below_drewN (Below.refl _ _) 1) HB.out) _)) hs.out
set_option maxRecDepth 100000 in
set_option maxHeartbeats 4000000 in
/-- Add, of two with other signs -/
theorem f107_ge (p q r : Nat) (x y : Int) (w : World) (hp : IsBig w p) (hq : BigAt w q x) (hr : BigAt w r y) (hx : x.natAbs < W32 ^ 4000) (hy : y.natAbs < W32 ^ 4000) (hdiff : ¬ decide (x < 0) = decide (y < 0)) (hle : y.natAbs ≤ x.natAbs) :
    Calls Try.prog 107 #[.pointer (some ⟨p, 0, none⟩), .pointer (some ⟨q, 0, none⟩), .pointer (some ⟨r, 0, none⟩)] w (BigRet w p (x + y)) := by
  obtain ⟨A, n, c, h1, h2, hc, hn⟩ := hq.cells
  obtain ⟨B, m, d, g1, g2, gc, gn⟩ := hr.cells
  have hf1 : n ≤ 4000 := by obtain ⟨ds, e1, e2, e3⟩ := hn; rw [← e1.len]; exact norm_len e2 4000 (by rw [e3]; exact hx)
  have hf2 : m ≤ 4000 := by obtain ⟨ds, e1, e2, e3⟩ := gn; rw [← e1.len]; exact norm_len e2 4000 (by rw [e3]; exact hy)
  have k114 : Hid (∀ W : World, W.heap = w.heap → Calls Try.prog 114 #[.slice A n c, .slice B m d] W (NumNew W (x.natAbs + y.natAbs))) := fun W hW => f114_any A B n c m d _ _ W (hn.same hW) (gn.same hW) (by omega) (by omega)
  have k115 : Hid (∀ W : World, W.heap = w.heap → Calls Try.prog 115 #[.slice A n c, .slice B m d] W fun e w' => e = .returned (.int .i64 (cmp3 x.natAbs y.natAbs)) ∧ ∃ q, w' = W.drewN q) := fun W hW => f115_any A B n c m d _ _ W (hn.same hW) (gn.same hW)
  have k116a : Hid (∀ W : World, W.heap = w.heap → y.natAbs ≤ x.natAbs → Calls Try.prog 116 #[.slice A n c, .slice B m d] W (NumNew W (x.natAbs - y.natAbs))) := fun W hW hle => f116_any A B n c m d _ _ W (hn.same hW) (gn.same hW) hle (by omega)
  have k116b : Hid (∀ W : World, W.heap = w.heap → x.natAbs ≤ y.natAbs → Calls Try.prog 116 #[.slice B m d, .slice A n c] W (NumNew W (y.natAbs - x.natAbs))) := fun W hW hle => f116_any B A m d n c _ _ W (gn.same hW) (hn.same hW) hle (by omega)
  have HP := Lib.hid hp
  have HG : Hid (∀ n : Nat, w.grownBy (w.drewN n) (some p)) := fun n => grown_below (below_drewN (Below.refl _ _) n) _
  have hs1 : Hid (decide (x < 0) = decide (y < 0) → _) := add_same (x := x) (y := y)
  have hs2 : Hid (decide (x < 0) = !decide (y < 0) → y.natAbs ≤ x.natAbs → _) := add_diff (x := x) (y := y)
  have hs3 : Hid (decide (y < 0) = !decide (x < 0) → x.natAbs ≤ y.natAbs → (if decide (y < 0) = true then -((y.natAbs - x.natAbs : Nat) : Int) else ((y.natAbs - x.natAbs : Nat) : Int)) = x + y) := fun h1 h2 => by rw [Int.add_comm]; exact add_diff (x := y) (y := x) h1 h2
  generalize x + y = z at *
  generalize hX : x.natAbs = X at *
  generalize hY : y.natAbs = Y at *
  generalize decide (x < 0) = b1 at *
  generalize decide (y < 0) = b2 at *
  have R6 : Hid (∀ W w1 : World, W.heap = w.heap → Below W.heap.size W w1 → w1.cell? ⟨q, 0, none⟩ = some (.bool b1) ∧ w1.cell? ⟨q, 1, none⟩ = some (.slice A n c) ∧ w1.cell? ⟨r, 0, none⟩ = some (.bool b2) ∧ w1.cell? ⟨r, 1, none⟩ = some (.slice B m d)) := fun W w1 hW hb => by
    have e : ∀ (b o : Nat) v, w.cell? ⟨b, o, none⟩ = some v → w1.cell? ⟨b, o, none⟩ = some v := fun b o v h => by
      have hlt := lt_of_cell h
      have h2 : W.cell? ⟨b, o, none⟩ = some v := by
        unfold World.cell? at h ⊢
        rw [hW]; exact h
      exact (hb.cell (lt_of_cell h2)).trans h2
    exact ⟨e _ _ _ h1, e _ _ _ h2, e _ _ _ g1, e _ _ _ g2⟩
  clear hp hq hn hr gn hx hy hX hY
  have hs := Lib.hid (hs2.out (not_of_ne hdiff) hle)
  have hq : (b1 == b2) = false := by simpa using hdiff
  have k116 := Lib.hid (fun W hW => k116a.out W hW hle)
  have hcm := cmp3_ge hle
  generalize cmp3 (X : Int) (Y : Int) = cm at *
  clear hs1 hs2 hs3 k114 k116a k116b hdiff
  go_enter Try.func107, Try.ntmps107
  go_wp2
  go_quiet (fail)
  rename_i nq
  have j1 : (w.drewN nq).cell? ⟨q, 0, none⟩ = some (.bool b1) := h1
  have j2 : (w.drewN nq).cell? ⟨q, 1, none⟩ = some (.slice A n c) := h2
  have j3 : (w.drewN nq).cell? ⟨r, 0, none⟩ = some (.bool b2) := g1
  have j4 : (w.drewN nq).cell? ⟨r, 1, none⟩ = some (.slice B m d) := g2
  have JP : Hid (IsBig (w.drewN nq) p) := HP.out
  have JG := Lib.hid (HG.out nq)
  have K := Lib.hid (fun W (hW : W.heap = (w.drewN nq).heap) => k116.out W hW)
  have J6 := Lib.hid (fun W w1 (hW : W.heap = (w.drewN nq).heap) hb => R6.out W w1 hW hb)
  have K5 := Lib.hid (fun W (hW : W.heap = (w.drewN nq).heap) => k115.out W hW)
  generalize w.drewN nq = W at *
  clear h1 h2 g1 g2
  go_wp2
  go_quiet ((go_at_call 115; exact quiet_m (K5.out _ rfl)))
  have j5 : (W.drewN nq).cell? ⟨q, 0, none⟩ = some (.bool b1) := j1
  have j6 : (W.drewN nq).cell? ⟨q, 1, none⟩ = some (.slice A n c) := j2
  have j7 : (W.drewN nq).cell? ⟨r, 0, none⟩ = some (.bool b2) := j3
  have j8 : (W.drewN nq).cell? ⟨r, 1, none⟩ = some (.slice B m d) := j4
  have JP2 : Hid (IsBig (W.drewN nq) p) := JP.out
  have JG2 : Hid (w.grownBy (W.drewN nq) (some p)) := grown_trans JG.out (grown_below (below_drewN (Below.refl _ _) _) _)
  have K2 := Lib.hid (fun V (hV : V.heap = (W.drewN nq).heap) => K.out V hV)
  have J7 := Lib.hid (fun V w1 (hV : V.heap = (W.drewN nq).heap) hb => J6.out V w1 hV hb)
  clear JP JG K J6 K5 j1 j2 j3 j4
  obtain ⟨JP, JG, K, J6⟩ : Hid _ ∧ Hid _ ∧ Hid _ ∧ Hid _ := ⟨JP2, JG2, K2, J7⟩
  clear JP2 JG2 K2 J7
  generalize W.drewN nq = W at *
  go_wp2
  go_region_with ((first | (go_at_call 116; refine (K.out W.drew rfl).mono ?_; rintro e w1 ⟨A', k, c', rfl, hnum, hk, hb⟩; obtain ⟨s1, s2, s3, s4⟩ := J6.out W.drew _ rfl hb; have HN := Lib.hid hnum; have HB := Lib.hid hb; clear hnum hb) | (go_at_call 113; refine (f113_any p b1 A' k c' w1 (IsBig.below (w := W.drew) JP.out HB.out) (num_few HN.out)).mono ?_; rintro e w' ⟨rfl, rfl⟩)))
  all_goals
    go_wp2
    go_ret
    exact set_ret (IsBig.below (w := W.drew) JP.out HB.out) b1 HN.out hk (grown_trans JG.out (grown_below (below_step (a := W) (b := W.drew) (below_drewN (Below.refl _ _) 1) HB.out) _)) hs.out
set_option maxRecDepth 100000 in
set_option maxHeartbeats 4000000 in
/-- Add, of two with other signs -/
theorem f107_lt (p q r : Nat) (x y : Int) (w : World) (hp : IsBig w p) (hq : BigAt w q x) (hr : BigAt w r y) (hx : x.natAbs < W32 ^ 4000) (hy : y.natAbs < W32 ^ 4000) (hdiff : ¬ decide (x < 0) = decide (y < 0)) (hlt : x.natAbs < y.natAbs) :
    Calls Try.prog 107 #[.pointer (some ⟨p, 0, none⟩), .pointer (some ⟨q, 0, none⟩), .pointer (some ⟨r, 0, none⟩)] w (BigRet w p (x + y)) := by
  obtain ⟨A, n, c, h1, h2, hc, hn⟩ := hq.cells
  obtain ⟨B, m, d, g1, g2, gc, gn⟩ := hr.cells
  have hf1 : n ≤ 4000 := by obtain ⟨ds, e1, e2, e3⟩ := hn; rw [← e1.len]; exact norm_len e2 4000 (by rw [e3]; exact hx)
  have hf2 : m ≤ 4000 := by obtain ⟨ds, e1, e2, e3⟩ := gn; rw [← e1.len]; exact norm_len e2 4000 (by rw [e3]; exact hy)
  have k114 : Hid (∀ W : World, W.heap = w.heap → Calls Try.prog 114 #[.slice A n c, .slice B m d] W (NumNew W (x.natAbs + y.natAbs))) := fun W hW => f114_any A B n c m d _ _ W (hn.same hW) (gn.same hW) (by omega) (by omega)
  have k115 : Hid (∀ W : World, W.heap = w.heap → Calls Try.prog 115 #[.slice A n c, .slice B m d] W fun e w' => e = .returned (.int .i64 (cmp3 x.natAbs y.natAbs)) ∧ ∃ q, w' = W.drewN q) := fun W hW => f115_any A B n c m d _ _ W (hn.same hW) (gn.same hW)
  have k116a : Hid (∀ W : World, W.heap = w.heap → y.natAbs ≤ x.natAbs → Calls Try.prog 116 #[.slice A n c, .slice B m d] W (NumNew W (x.natAbs - y.natAbs))) := fun W hW hle => f116_any A B n c m d _ _ W (hn.same hW) (gn.same hW) hle (by omega)
  have k116b : Hid (∀ W : World, W.heap = w.heap → x.natAbs ≤ y.natAbs → Calls Try.prog 116 #[.slice B m d, .slice A n c] W (NumNew W (y.natAbs - x.natAbs))) := fun W hW hle => f116_any B A m d n c _ _ W (gn.same hW) (hn.same hW) hle (by omega)
  have HP := Lib.hid hp
  have HG : Hid (∀ n : Nat, w.grownBy (w.drewN n) (some p)) := fun n => grown_below (below_drewN (Below.refl _ _) n) _
  have hs1 : Hid (decide (x < 0) = decide (y < 0) → _) := add_same (x := x) (y := y)
  have hs2 : Hid (decide (x < 0) = !decide (y < 0) → y.natAbs ≤ x.natAbs → _) := add_diff (x := x) (y := y)
  have hs3 : Hid (decide (y < 0) = !decide (x < 0) → x.natAbs ≤ y.natAbs → (if decide (y < 0) = true then -((y.natAbs - x.natAbs : Nat) : Int) else ((y.natAbs - x.natAbs : Nat) : Int)) = x + y) := fun h1 h2 => by rw [Int.add_comm]; exact add_diff (x := y) (y := x) h1 h2
  generalize x + y = z at *
  generalize hX : x.natAbs = X at *
  generalize hY : y.natAbs = Y at *
  generalize decide (x < 0) = b1 at *
  generalize decide (y < 0) = b2 at *
  have R6 : Hid (∀ W w1 : World, W.heap = w.heap → Below W.heap.size W w1 → w1.cell? ⟨q, 0, none⟩ = some (.bool b1) ∧ w1.cell? ⟨q, 1, none⟩ = some (.slice A n c) ∧ w1.cell? ⟨r, 0, none⟩ = some (.bool b2) ∧ w1.cell? ⟨r, 1, none⟩ = some (.slice B m d)) := fun W w1 hW hb => by
    have e : ∀ (b o : Nat) v, w.cell? ⟨b, o, none⟩ = some v → w1.cell? ⟨b, o, none⟩ = some v := fun b o v h => by
      have hlt := lt_of_cell h
      have h2 : W.cell? ⟨b, o, none⟩ = some v := by
        unfold World.cell? at h ⊢
        rw [hW]; exact h
      exact (hb.cell (lt_of_cell h2)).trans h2
    exact ⟨e _ _ _ h1, e _ _ _ h2, e _ _ _ g1, e _ _ _ g2⟩
  clear hp hq hn hr gn hx hy hX hY
  have hs := Lib.hid (hs3.out (not_of_ne fun h => hdiff h.symm) (by omega))
  have hq : (b1 == b2) = false := by simpa using hdiff
  have k116 := Lib.hid (fun W hW => k116b.out W hW (by omega))
  have hcm := cmp3_lt hlt
  generalize cmp3 (X : Int) (Y : Int) = cm at *
  clear hs1 hs2 hs3 k114 k116a k116b hdiff
  go_enter Try.func107, Try.ntmps107
  go_wp2
  go_quiet (fail)
  rename_i nq
  have j1 : (w.drewN nq).cell? ⟨q, 0, none⟩ = some (.bool b1) := h1
  have j2 : (w.drewN nq).cell? ⟨q, 1, none⟩ = some (.slice A n c) := h2
  have j3 : (w.drewN nq).cell? ⟨r, 0, none⟩ = some (.bool b2) := g1
  have j4 : (w.drewN nq).cell? ⟨r, 1, none⟩ = some (.slice B m d) := g2
  have JP : Hid (IsBig (w.drewN nq) p) := HP.out
  have JG := Lib.hid (HG.out nq)
  have K := Lib.hid (fun W (hW : W.heap = (w.drewN nq).heap) => k116.out W hW)
  have J6 := Lib.hid (fun W w1 (hW : W.heap = (w.drewN nq).heap) hb => R6.out W w1 hW hb)
  have K5 := Lib.hid (fun W (hW : W.heap = (w.drewN nq).heap) => k115.out W hW)
  generalize w.drewN nq = W at *
  clear h1 h2 g1 g2
  go_wp2
  go_quiet ((go_at_call 115; exact quiet_m (K5.out _ rfl)))
  have j5 : (W.drewN nq).cell? ⟨q, 0, none⟩ = some (.bool b1) := j1
  have j6 : (W.drewN nq).cell? ⟨q, 1, none⟩ = some (.slice A n c) := j2
  have j7 : (W.drewN nq).cell? ⟨r, 0, none⟩ = some (.bool b2) := j3
  have j8 : (W.drewN nq).cell? ⟨r, 1, none⟩ = some (.slice B m d) := j4
  have JP2 : Hid (IsBig (W.drewN nq) p) := JP.out
  have JG2 : Hid (w.grownBy (W.drewN nq) (some p)) := grown_trans JG.out (grown_below (below_drewN (Below.refl _ _) _) _)
  have K2 := Lib.hid (fun V (hV : V.heap = (W.drewN nq).heap) => K.out V hV)
  have J7 := Lib.hid (fun V w1 (hV : V.heap = (W.drewN nq).heap) hb => J6.out V w1 hV hb)
  clear JP JG K J6 K5 j1 j2 j3 j4
  obtain ⟨JP, JG, K, J6⟩ : Hid _ ∧ Hid _ ∧ Hid _ ∧ Hid _ := ⟨JP2, JG2, K2, J7⟩
  clear JP2 JG2 K2 J7
  generalize W.drewN nq = W at *
  go_wp2
  go_region_with ((first | (go_at_call 116; refine (K.out W.drew rfl).mono ?_; rintro e w1 ⟨A', k, c', rfl, hnum, hk, hb⟩; obtain ⟨s1, s2, s3, s4⟩ := J6.out W.drew _ rfl hb; have HN := Lib.hid hnum; have HB := Lib.hid hb; clear hnum hb) | (go_at_call 113; refine (f113_any p b2 A' k c' w1 (IsBig.below (w := W.drew) JP.out HB.out) (num_few HN.out)).mono ?_; rintro e w' ⟨rfl, rfl⟩)))
  all_goals
    go_wp2
    go_ret
    exact set_ret (IsBig.below (w := W.drew) JP.out HB.out) b2 HN.out hk (grown_trans JG.out (grown_below (below_step (a := W) (b := W.drew) (below_drewN (Below.refl _ _) 1) HB.out) _)) hs.out
set_option maxRecDepth 100000 in
set_option maxHeartbeats 4000000 in
/-- (*big.Int).Add -/
theorem f107_any (p q r : Nat) (x y : Int) (w : World) (hp : IsBig w p) (hq : BigAt w q x) (hr : BigAt w r y) (hx : x.natAbs < W32 ^ 4000) (hy : y.natAbs < W32 ^ 4000) :
    Calls Try.prog 107 #[.pointer (some ⟨p, 0, none⟩), .pointer (some ⟨q, 0, none⟩), .pointer (some ⟨r, 0, none⟩)] w (BigRet w p (x + y)) := by
  by_cases h : decide (x < 0) = decide (y < 0)
  · exact f107_same p q r x y w hp hq hr hx hy h
  · by_cases hle : y.natAbs ≤ x.natAbs
    · exact f107_ge p q r x y w hp hq hr hx hy h hle
    · exact f107_lt p q r x y w hp hq hr hx hy h (by omega)
end Go.Proofs.Ytfaenbaaadjbbaa
