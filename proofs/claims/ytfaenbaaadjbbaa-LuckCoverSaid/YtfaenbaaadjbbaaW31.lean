/- Walk: luck.Loss. -/
import Derived.Test.YtfaenbaaadjbbaaW30
import Derived.Test.YtfaenbaaadjbbaaW26
namespace Go.Proofs.Ytfaenbaaadjbbaa
open Go.RowKit

theorem half_bit (s j : Nat) : s / 2 ^ j = 2 * (s / 2 ^ (j + 1)) + (if s.testBit j then 1 else 0) := by
  rw [Nat.testBit_eq_decide_div_mod_eq, Nat.pow_succ, ← Nat.div_div_eq_div_mul]
  generalize s / 2 ^ j = t
  by_cases h : t % 2 = 1 <;> simp [h] <;> omega
/-- A row of ints reads as a list. -/
theorem Row.form2 {w : World} {base : Nat} {v : Value} {xs : List Int} (h : Row w base v xs) (hs : xs.length ≤ 1000) : ∃ A c, v = .slice A xs.length c ∧ Ints w A xs.length xs ∧ (A = none → xs.length = 0 ∧ c = 0) := by
  obtain ⟨A, c, e, hi⟩ := h.form
  refine ⟨A, c, e, hi xs.length (Nat.le_refl _) (by omega), fun hA => ?_⟩
  rcases h.2 with ⟨e2, hn⟩ | ⟨g, cap, cur, e2, _⟩
  · rw [e] at e2; injection e2 with _ _ h3; exact ⟨hn, h3⟩
  · rw [e, hA] at e2; injection e2 with h1; cases h1
set_option maxRecDepth 100000 in
set_option maxHeartbeats 4000000 in
/-- luck.Loss -/
theorem f26_any (A : Option Addr) (k : Int) (n c : Nat) (goal : List Int) (s : Int) (w : World) (hs : Ints w A n goal) (hcap : n ≤ c) :
    Calls Try.prog 26 #[.int .i64 k, .slice A n c, .int .i64 s] w (RatErr w (loX k goal s) (loY k goal s) (loE k goal s)) := by
  obtain ⟨w0, hw0⟩ : ∃ w0, w0 = w.alloc (.cells #[.int .i64 0, .int .i64 0] 26) := ⟨_, rfl⟩
  have b0 : Below w.heap.size w w0 := by rw [hw0]; exact below_alloc _ _
  have k29 := Lib.hid (f55_any k A n c goal w0 (hs.below b0))
  have HS := Lib.hid (hs.below b0)
  have HW := Lib.hid hw0
  obtain ⟨r0, r1, r2, r3, hz, hfin, hfin2⟩ := res_cells hw0 (Below.refl _ _)
  have HF := Lib.hid hfin2
  clear hfin hfin2
  cases hok : goalOk k goal
  · rw [lo_no 2 (by decide) (lo_arg hok)]
    rw [hok] at k29
    clear hok hs hw0
    go_enter Try.func26, Try.ntmps26
    go_wp2_with fail
    rw [← HW.out]
    refine k29.out.mono ?_
    rintro e w1 ⟨rfl, hb⟩
    obtain ⟨r0, r1, r2, r3, hz1, hfin, hfin2⟩ := res_cells HW.out hb
    have HF := Lib.hid hfin2
    clear hb hfin hfin2
    go_wp2
    exact bodyPost_ret (v := .tuple #[.agg #[.int .i64 0, .int .i64 0], .int .i64 2]) (by simp [results, Try.results26, go_sem, r0, r1]) rfl ⟨rfl, by first | exact HF.out | exact (HF.out.setCell (Nat.le_refl _) _).setCell (Nat.le_refl _) _⟩
  obtain ⟨k, rfl, g1, g2, g3, g4⟩ := goalOk_facts hok
  rw [hok] at k29
  obtain ⟨N, hN, hshl⟩ := shl_one k (by omega)
  have hN2 : N ≤ 1024 := by rw [hN]; exact pow10 k g2
  by_cases hrg : ¬ (0 ≤ s ∧ s < ((2 ^ k : Nat) : Int))
  · rw [lo_no 4 (by decide) (lo_range hok (by rw [Int.toNat_natCast]; exact hrg))]
    rw [← hN] at hrg
    by_cases h0 : s < 0
    · clear hok hs hw0 hN hrg g3 g4
      go_enter Try.func26, Try.ntmps26
      go_wp2_with fail
      rw [← HW.out]
      refine k29.out.mono ?_
      rintro e w1 ⟨rfl, hb⟩
      obtain ⟨r0, r1, r2, r3, hz1, hfin, hfin2⟩ := res_cells HW.out hb
      have HF := Lib.hid hfin2
      clear hb hfin hfin2
      go_wp2
      exact bodyPost_ret (v := .tuple #[.agg #[.int .i64 0, .int .i64 0], .int .i64 4]) (by simp [results, Try.results26, go_sem, r0, r1]) rfl ⟨rfl, by first | exact HF.out | exact (HF.out.setCell (Nat.le_refl _) _).setCell (Nat.le_refl _) _⟩
    · have h1 : (N : Int) ≤ s := by omega
      clear hok hs hw0 hN hrg g3 g4
      go_enter Try.func26, Try.ntmps26
      go_wp2_with fail
      rw [← HW.out]
      refine k29.out.mono ?_
      rintro e w1 ⟨rfl, hb⟩
      obtain ⟨r0, r1, r2, r3, hz1, hfin, hfin2⟩ := res_cells HW.out hb
      have HF := Lib.hid hfin2
      clear hb hfin hfin2
      go_wp2
      exact bodyPost_ret (v := .tuple #[.agg #[.int .i64 0, .int .i64 0], .int .i64 4]) (by simp [results, Try.results26, go_sem, r0, r1]) rfl ⟨rfl, by first | exact HF.out | exact (HF.out.setCell (Nat.le_refl _) _).setCell (Nat.le_refl _) _⟩
  have hrg' : 0 ≤ s ∧ s < ((2 ^ k : Nat) : Int) := Classical.not_not.mp hrg
  clear hrg
  obtain ⟨s, rfl⟩ := nat_of s hrg'.1
  have hsN : s < 2 ^ k := Int.ofNat_lt.mp hrg'.2
  clear hrg'
  have hl : n = 2 ^ k := by rw [← hs.len]; exact g3
  have k56 : Hid (∀ w1, Ints w1 A n goal → Calls Try.prog 56 #[.slice A n c] w1 fun e w' => e = .returned (.int .i64 (lev 122880 (sc 2048 goal) k 0)) ∧ Below w1.heap.size w1 w') := fun w1 h => f56_any A k n c goal w1 h g2 hl (goal600 g2 g4)
  have hsg : decide (lev 122880 (sc 2048 goal) k 0 < 0) = !canB k goal := lev_sign k goal g2
  generalize lev 122880 (sc 2048 goal) k 0 = z at *
  have hsN1 : s < N := by rw [hN]; exact hsN
  cases hcan : canB k goal
  · rw [lo_no 10 (by decide) (lo_plan hok hsN hcan)]
    have hx : z < 0 := by rw [hcan] at hsg; simpa using hsg
    clear hok hs hw0 hN g3 g4 hsN hl hcan hsg
    go_enter Try.func26, Try.ntmps26
    go_wp2_with fail
    rw [← HW.out]
    refine k29.out.mono ?_
    rintro e w1 ⟨rfl, hb⟩
    have HS1 := Lib.hid (HS.out.below hb)
    have B1 := Lib.hid hb
    clear hb
    go_wp2_with fail
    refine (k56.out _ HS1.out).mono ?_
    rintro e w2 ⟨rfl, hb⟩
    obtain ⟨r0, r1, r2, r3, hz1, hfin, hfin2⟩ := res_cells HW.out (below_step B1.out hb)
    have HF := Lib.hid hfin2
    clear hb hfin hfin2
    go_wp2
    exact bodyPost_ret (v := .tuple #[.agg #[.int .i64 0, .int .i64 0], .int .i64 10]) (by simp [results, Try.results26, go_sem, r0, r1]) rfl ⟨rfl, by first | exact HF.out | exact (HF.out.setCell (Nat.le_refl _) _).setCell (Nat.le_refl _) _⟩
  rw [lo_yes hok hsN hcan]
  have hx : 0 ≤ z := by rw [hcan] at hsg; simpa using hsg
  have hall2 : allG k ≤ 122880 := by unfold allG; rw [← hN]; omega
  have hlt : Hid (∀ m, m ≤ k → lossTo k goal s m ≤ 1228800) := fun m hm => Nat.le_trans (lossTo_le k goal s m hm) (by
    have := Nat.mul_le_mul (show m ≤ 10 by omega) hall2; omega)
  have hstart : Hid (ratN (lossTo k goal s 0) (allG k) = 0 ∧ ratD (lossTo k goal s 0) (allG k) = 1 ∧ s / 2 ^ k = 0) := by
    have e : lossTo k goal s 0 = 0 := rfl
    have h := allG_pos k
    refine ⟨?_, ?_, Nat.div_eq_of_lt hsN⟩
    · rw [e]; simp [ratN]
    · rw [e]; simp [ratD, Nat.div_self h]
  have hstep : Hid (∀ m, m < k → 0 < denG k m ∧ 2 * denG k m ≤ 122880) := fun m hm => by
    have e := allG_eq hm
    have hp := denG_pos k m
    have h2 : 1 * (2 * denG k m) ≤ 2 ^ (m + 1) * (2 * denG k m) := Nat.mul_le_mul_right _ (Nat.pow_pos (by omega))
    exact ⟨hp, by omega⟩
  have k57 : Hid (∀ (w1 : World) (B : Option Addr) (m d : Nat) (ns : List Int), Ints w1 A n goal → Ints w1 B m ns → (B = none → m = 0 ∧ d = 0) → m < k → ns.all bitB = true → Calls Try.prog 57 #[.int .i64 (k : Int), .slice A n c, .slice B m d] w1 (RatOf w1 (gv k goal m (bnum ns)) (2 * denG k m))) := fun w1 B m d ns h1 h2 h3 h4 h5 =>
    f57_any A B k n c m d goal ns w1 h1 hcap h2 h3 g2 h4 hl h5 (goal600 g2 g4)
  clear hok hs hw0 hN g3 g4 hsN hl hcan hsg hcap
  go_enter Try.func26, Try.ntmps26
  go_wp2_with fail
  rw [← HW.out]
  refine k29.out.mono ?_
  rintro e w1 ⟨rfl, hb⟩
  have HS1 := Lib.hid (HS.out.below hb)
  have B1 := Lib.hid hb
  clear hb
  go_wp2_with fail
  refine (k56.out _ HS1.out).mono ?_
  rintro e w2 ⟨rfl, hb⟩
  have HS2 := Lib.hid (HS1.out.below hb)
  have B2 := Lib.hid (below_step B1.out hb)
  clear hb
  go_wp2
  obtain ⟨w3, hw3⟩ : ∃ w3, w3 = w2.alloc (.cells #[.int .i64 0, .int .i64 1] 26) := ⟨_, rfl⟩
  have hsz3 : w2.heap.size < w3.heap.size := by rw [hw3]; simp
  have b3 : Below w2.heap.size w2 w3 := by rw [hw3]; exact below_alloc _ _
  have l0 : Hid (w3.cell? ⟨w2.heap.size, 0, none⟩ = some (.int .i64 0) ∧ w3.cell? ⟨w2.heap.size, 1, none⟩ = some (.int .i64 1) ∧ (∀ j, w3.frozen? ⟨w2.heap.size, j, none⟩ = false)) := by
    rw [hw3]; exact ⟨cell_new _ _ _ _, cell_new _ _ _ _, fun j => frozen_new _ _ _ _⟩
  rw [← hw3]
  clear hw3
  have B3 := Lib.hid b3
  clear b3
  go_loopw [9, 10, 11] (fun v i _ wr => ∃ (t m : Nat) (ns : List Int), t + m = k ∧ i = .int .i64 ((t : Int) - 1) ∧ Row wr w3.heap.size v ns ∧ Hid (ns.length = m ∧ ns.all bitB = true ∧ bnum ns = s / 2 ^ t) ∧
    wr.cell? ⟨w2.heap.size, 0, none⟩ = some (.int .i64 (ratN (lossTo k goal s m) (allG k) : Int)) ∧ wr.cell? ⟨w2.heap.size, 1, none⟩ = some (.int .i64 (ratD (lossTo k goal s m) (allG k) : Int)) ∧ Hid (∀ j, wr.frozen? ⟨w2.heap.size, j, none⟩ = false) ∧ Below w2.heap.size w2 wr ∧ w3.heap.size ≤ wr.heap.size) (fun _ i _ _ => (intOf i + 1).toNat)
  case atStart =>
    obtain ⟨h1, h2, h3⟩ := l0.out
    obtain ⟨q1, q2, q3⟩ := hstart.out
    exact ⟨k, 0, [], by omega, by first | rfl | go_num, Row.nil _ _, ⟨rfl, rfl, by rw [q3]; rfl⟩, by rw [q1]; exact h1, by rw [q2]; exact h2, h3, B3.out, Nat.le_refl _⟩
  case round =>
    obtain ⟨t, m, ns, htm, rfl, hrow, hns, hc0, hc1, hfr, hbel, hsz⟩ := hrel
    cases t with
    | zero =>
      obtain rfl : m = k := by omega
      have BW := Lib.hid (below_step B2.out hbel)
      obtain ⟨r0, r1, r2, r3, hz1, hfin, hfin2⟩ := res_cells HW.out BW.out
      have HF := Lib.hid hfin
      rw [show (((0 : Nat) : Int) - 1) = -1 from rfl]
      clear hfin hfin2 hrow hns hfr hbel
      generalize ratN (lossTo m goal s m) (allG m) = X at *
      generalize ratD (lossTo m goal s m) (allG m) = Y at *
      go_wp2
      exact bodyPost_ret (v := .tuple #[.agg #[.int .i64 (X : Int), .int .i64 (Y : Int)], .int .i64 0]) (by simp [results, Try.results26, go_sem, r0, r1]) rfl ⟨rfl, HF.out _ _⟩
    | succ j =>
      have hmk : m < k := by omega
      have ej : (((j + 1 : Nat) : Int) - 1) = (j : Int) := by omega
      rw [ej]
      obtain ⟨hl, hall, hbn⟩ := hns.out
      obtain ⟨B, d, rfl, hi, hnil⟩ := hrow.form2 (by omega)
      rw [hl] at hi hnil hrow ⊢
      have K57 := Lib.hid (k57.out wr B m d ns ((HS2.out.below hbel)) hi hnil hmk hall)
      rw [hbn] at K57
      have stp := loss_step goal s hmk
      simp only [show k - m = j + 1 by omega, show k - 1 - m = j by omega] at stp
      obtain ⟨dp, dl⟩ := hstep.out m hmk
      have hlo := hlt.out m (by omega)
      have g1 := gv_le k goal m (s / 2 ^ (j + 1))
      have b1 := ratN_le (lossTo k goal s m) (allG k)
      have b2 := ratD_le (lossTo k goal s m) (allG k)
      have b3 := ratN_le (gv k goal m (s / 2 ^ (j + 1))) (2 * denG k m)
      have b4 := ratD_le (gv k goal m (s / 2 ^ (j + 1))) (2 * denG k m)
      have b5 := ratD_pos (a := lossTo k goal s m) (b := allG k) (allG_pos k)
      have b6 := ratD_pos (a := gv k goal m (s / 2 ^ (j + 1))) (b := 2 * denG k m) (by omega)
      have hUV : ratN (gv k goal m (s / 2 ^ (j + 1))) (2 * denG k m) ≤ ratD (gv k goal m (s / 2 ^ (j + 1))) (2 * denG k m) := Nat.div_le_div_right g1
      have HROW := Lib.hid hrow
      have HNS := Lib.hid hns.out
      have HFR := Lib.hid hfr
      have HBL := Lib.hid hbel
      have hsm : s < 9223372036854775808 := by omega
      have es := shr_and s j hsm
      have hk57 := K57.out
      unfold RatOf at hk57
      have K57' := Lib.hid hk57
      obtain ⟨U, hU⟩ : ∃ U, U = ratN (gv k goal m (s / 2 ^ (j + 1))) (2 * denG k m) := ⟨_, rfl⟩
      obtain ⟨V, hV⟩ : ∃ V, V = ratD (gv k goal m (s / 2 ^ (j + 1))) (2 * denG k m) := ⟨_, rfl⟩
      obtain ⟨X, hX⟩ : ∃ X, X = ratN (lossTo k goal s m) (allG k) := ⟨_, rfl⟩
      obtain ⟨Y, hY⟩ : ∃ Y, Y = ratD (lossTo k goal s m) (allG k) := ⟨_, rfl⟩
      rw [← hU, ← hV] at K57' hUV
      rw [← hU] at b3
      rw [← hV] at b4 b6
      rw [← hX] at b1 hc0
      rw [← hY] at b2 b5 hc1
      rw [← hU, ← hV, ← hX, ← hY] at stp
      have hU2 : U ≤ 122880 := by omega
      have hV2 : V ≤ 122880 := by omega
      have hX2 : X ≤ 1228800 := by omega
      have hY2 : Y ≤ 122880 := by omega
      have STP := Lib.hid stp
      clear stp K57 hk57 hi hnil hrow hns hfr hbel hU hV hX hY b1 b2 b3 b4 g1 dp dl hlo hl hall hbn
      cases hbt : s.testBit j
      · rw [hbt] at es
        have STP2 := STP.out
        rw [hbt] at STP2
        simp only [Bool.false_eq_true, if_false] at STP2 es
        have q1 : X * V ≤ 1228800 * 122880 := Nat.mul_le_mul hX2 hV2
        have q2 : U * Y ≤ 122880 * 122880 := Nat.mul_le_mul hU2 hY2
        have q3 : Y * V ≤ 122880 * 122880 := Nat.mul_le_mul hY2 hV2
        have q4 : 0 < Y * V := Nat.mul_pos b5 b6
        have p1 : (X : Int) * (V : Int) = ((X * V : Nat) : Int) := by simp
        have p2 : (U : Int) * (Y : Int) = ((U * Y : Nat) : Int) := by simp
        have p3 : (Y : Int) * (V : Int) = ((Y * V : Nat) : Int) := by simp
        generalize X * V = P1 at *
        generalize U * Y = P2 at *
        generalize Y * V = P3 at *
        have k52 : Hid (∀ W, Calls Try.prog 52 #[.int .i64 ((P1 : Int) + (P2 : Int)), .int .i64 (P3 : Int)] W (RatOf W (P1 + P2) P3)) := fun W => by
          have h := f52_any (P1 + P2) P3 W (by omega) (by omega) q4
          rwa [Int.natCast_add] at h
        have STP3 := Lib.hid STP2
        have HBT := Lib.hid hbt
        clear STP2 hbt
        go_wp2_with fail
        refine K57'.out.mono ?_
        rintro e w4 ⟨rfl, hb4⟩
        have hsz4 := hb4.size
        have b45 := hb4.alloc hb4.size (.cells #[.int .i64 (U : Int), .int .i64 (V : Int)] 26)
        have B45 := Lib.hid b45
        have hL : w2.heap.size < wr.heap.size := by omega
        have z0 := (b45.cell (p := ⟨w2.heap.size, 0, none⟩) hL).trans hc0
        have z1 := (b45.cell (p := ⟨w2.heap.size, 1, none⟩) hL).trans hc1
        have z2 := cell_new w4 #[.int .i64 (U : Int), .int .i64 (V : Int)] 26 0
        have z3 := cell_new w4 #[.int .i64 (U : Int), .int .i64 (V : Int)] 26 1
        clear hb4 b45
        go_wp2_with fail
        refine (k52.out _).mono ?_
        rintro e w5 ⟨rfl, hb5⟩
        have b5' := below_step B45.out hb5
        obtain ⟨e1, e2⟩ := bcell b5'
        have c0' := (e1 _ 0 hL).trans hc0
        have c1' := (e1 _ 1 hL).trans hc1
        have f0 := (e2 _ 0 hL).trans (HFR.out 0)
        have f1 := (e2 _ 1 hL).trans (HFR.out 1)
        obtain ⟨X', hX'⟩ : ∃ X', X' = ratN (P1 + P2) P3 := ⟨_, rfl⟩
        obtain ⟨Y', hY'⟩ : ∃ Y', Y' = ratD (P1 + P2) P3 := ⟨_, rfl⟩
        rw [← hX', ← hY']
        have STP4 : Hid (X' = ratN (lossTo k goal s (m + 1)) (allG k) ∧ Y' = ratD (lossTo k goal s (m + 1)) (allG k)) := ⟨hX'.trans STP3.out.1, hY'.trans STP3.out.2⟩
        have G5 : Hid (wr.grownBy ((w5.setCell ⟨w2.heap.size, 0, none⟩ (.int .i64 (X' : Int))).setCell ⟨w2.heap.size, 1, none⟩ (.int .i64 (Y' : Int))) (some w2.heap.size)) := grown_trans (grown_below b5' _) (grown_trans (grown_set _ _ _ _) (grown_set _ _ _ _))
        have HR5 := Lib.hid (HROW.out.kept G5.out hsz3)
        have HB5 := Lib.hid b5'
        clear hX' hY' e1 hb5 b5' hc0 hc1 z0 z1 z2 z3
        obtain ⟨w6, hw6⟩ : ∃ w6, w6 = (w5.setCell ⟨w2.heap.size, 0, none⟩ (.int .i64 (X' : Int))).setCell ⟨w2.heap.size, 1, none⟩ (.int .i64 (Y' : Int)) := ⟨_, rfl⟩
        have hs6 : w6.heap.size = w5.heap.size := by rw [hw6]; simp [World.setCell]
        have m0 : w6.cell? ⟨w2.heap.size, 0, none⟩ = some (.int .i64 (X' : Int)) := by
          rw [hw6, World.cell?_setCell_other _ _ _ _ (by simp)]; first | exact World.cell?_setCell_same c0' | exact World.cell?_setCell_same _ _ _ c0'
        have m1 : w6.cell? ⟨w2.heap.size, 1, none⟩ = some (.int .i64 (Y' : Int)) := by
          rw [hw6]
          have h : (w5.setCell ⟨w2.heap.size, 0, none⟩ (.int .i64 (X' : Int))).cell? ⟨w2.heap.size, 1, none⟩ = some (.int .i64 0) ∨ (w5.setCell ⟨w2.heap.size, 0, none⟩ (.int .i64 (X' : Int))).cell? ⟨w2.heap.size, 1, none⟩ = some (.int .i64 (Y : Int)) := .inr ((World.cell?_setCell_other _ _ _ _ (by simp)).trans c1')
          rcases h with h | h <;> first | exact World.cell?_setCell_same h | exact World.cell?_setCell_same _ _ _ h
        have F6 := Lib.hid (G5.out)
        rw [← hw6] at F6 HR5
        have FL : Hid (∀ jj, w6.frozen? ⟨w2.heap.size, jj, none⟩ = false) := fun jj => by
          rw [hw6]; simp [go_sem]; exact (e2 _ jj hL).trans (HFR.out jj)
        have HW6 := Lib.hid hw6
        have hcn : Hid ((w6.alloc (.cells #[.int .i64 0] 3)).cell? ⟨w5.heap.size, 0, none⟩ = some (.int .i64 0)) := by
          have h := cell_new w6 #[.int .i64 0] 3 0
          rw [hs6] at h; exact h
        clear e2
        have hln := HNS.out.1
        have hm10 : m ≤ 10 := by omega
        have hbase : w3.heap.size ≤ w5.heap.size := by have := HB5.out.size; omega
        have HBX : Hid (w3.heap.size ≤ (w6.alloc (.cells #[.int .i64 0] 3)).heap.size) := by unfold Hid; simp; omega
        have HRX : Hid (Row (w6.alloc (.cells #[.int .i64 0] 3)) w3.heap.size (.slice B m d) ns) := HR5.out.alloc _
        rw [hw6] at HBX HRX hcn
        have HBX' := HBX
        have HM := Lib.hid (And.intro m0 m1)
        have hs6' := Lib.hid hs6
        clear m0 m1 hw6 hs6
        go_wp2_with (at_builtin; refine wpList_push rfl (.tmp 72) (.tmp 77) rfl w3.heap.size _ ns rfl HRX.out w5.heap.size 1 0 rfl hcn.out ?hl HBX.out ?hr)
        case hl => omega
        case hr =>
          intro v' w7 hr hg
          rw [← HW6.out] at hg
          have hL6 : w2.heap.size < w6.heap.size := by rw [hs6'.out]; omega
          have hne : some w2.heap.size ≠ (Value.slice B m d).ownBlock := fun e => by
            have h := (World.ownsRow.lt HROW.out w2.heap.size e.symm).1
            omega
          have hL7 : w2.heap.size < (w6.alloc (.cells #[.int .i64 0] 3)).heap.size := by simp; omega
          have C7 : Hid (w7.cell? ⟨w2.heap.size, 0, none⟩ = some (.int .i64 (X' : Int)) ∧ w7.cell? ⟨w2.heap.size, 1, none⟩ = some (.int .i64 (Y' : Int)) ∧ ∀ jj, w7.frozen? ⟨w2.heap.size, jj, none⟩ = false) :=
            ⟨(hg.cell_far _ hL7 hne).trans (((below_alloc w6 _).cell hL6).trans HM.out.1), (hg.cell_far _ hL7 hne).trans (((below_alloc w6 _).cell hL6).trans HM.out.2), fun jj => (hg.frozen_far _ hL7 hne).trans (((bcell (below_alloc w6 (.cells #[.int .i64 0] 3))).2 _ jj hL6).trans (FL.out jj))⟩
          have HB7 : Hid (Below w2.heap.size w2 w7) :=
            below_grown ((HBL.out.grown F6.out (by omega) (fun q hq => by injection hq with hq; omega)).alloc (by omega) _) hg (by omega) (HR5.out.alloc _) (by omega)
          have HS7 : Hid (w3.heap.size ≤ w7.heap.size) := Nat.le_trans (by rw [HW6.out]; exact HBX'.out) hg.size
          have HR7 := Lib.hid hr
          clear hr hg hne hL7 hL6
          go_wp2
          go_roundw
          case rel =>
            obtain ⟨n1, n2, n3⟩ := HNS.out
            obtain ⟨c1, c2, c3⟩ := C7.out
            refine ⟨j, m + 1, ns ++ [0], by omega, rfl, HR7.out, ⟨by simp [n1], all_snoc n2 0 (.inl rfl), ?_⟩, by rw [← STP4.out.1]; exact c1, by rw [← STP4.out.2]; exact c2, c3, HB7.out, HS7.out⟩
            rw [bnum_snoc, n3]
            have h := half_bit s j
            rw [HBT.out] at h
            simpa using h.symm
          case measure => simp [intOf]
      · rw [hbt] at es
        have STP2 := STP.out
        rw [hbt] at STP2
        simp only [if_true] at STP2 es
        obtain ⟨U', hU'⟩ : ∃ U', U' = V - U := ⟨_, rfl⟩
        rw [← hU'] at STP2
        have hU2' : U' ≤ 122880 := by omega
        have v0 : (V : Int) - (U : Int) = (U' : Int) := by omega
        have q1 : X * V ≤ 1228800 * 122880 := Nat.mul_le_mul hX2 hV2
        have q2 : U' * Y ≤ 122880 * 122880 := Nat.mul_le_mul hU2' hY2
        have q3 : Y * V ≤ 122880 * 122880 := Nat.mul_le_mul hY2 hV2
        have q4 : 0 < Y * V := Nat.mul_pos b5 b6
        have p1 : (X : Int) * (V : Int) = ((X * V : Nat) : Int) := by simp
        have p2 : (U' : Int) * (Y : Int) = ((U' * Y : Nat) : Int) := by simp
        have p3 : (Y : Int) * (V : Int) = ((Y * V : Nat) : Int) := by simp
        generalize X * V = P1 at *
        generalize U' * Y = P2 at *
        generalize Y * V = P3 at *
        have k52 : Hid (∀ W, Calls Try.prog 52 #[.int .i64 ((P1 : Int) + (P2 : Int)), .int .i64 (P3 : Int)] W (RatOf W (P1 + P2) P3)) := fun W => by
          have h := f52_any (P1 + P2) P3 W (by omega) (by omega) q4
          rwa [Int.natCast_add] at h
        have STP3 := Lib.hid STP2
        have HBT := Lib.hid hbt
        clear STP2 hbt hU'
        go_wp2_with fail
        refine K57'.out.mono ?_
        rintro e w4 ⟨rfl, hb4⟩
        have hsz4 := hb4.size
        have b45 : Below wr.heap.size wr (w4.alloc (.cells #[.int .i64 (U : Int), .int .i64 (V : Int)] 26)) := hb4.alloc hb4.size (.cells #[.int .i64 (U : Int), .int .i64 (V : Int)] 26)
        have B45 := Lib.hid b45
        have hL : w2.heap.size < wr.heap.size := by omega
        have z2 : (w4.alloc (.cells #[.int .i64 (U : Int), .int .i64 (V : Int)] 26)).cell? ⟨w4.heap.size, 0, none⟩ = some (.int .i64 (U : Int)) := cell_new w4 #[.int .i64 (U : Int), .int .i64 (V : Int)] 26 0
        have z3 : (w4.alloc (.cells #[.int .i64 (U : Int), .int .i64 (V : Int)] 26)).cell? ⟨w4.heap.size, 1, none⟩ = some (.int .i64 (V : Int)) := cell_new w4 #[.int .i64 (U : Int), .int .i64 (V : Int)] 26 1
        have zf : (w4.alloc (.cells #[.int .i64 (U : Int), .int .i64 (V : Int)] 26)).frozen? ⟨w4.heap.size, 0, none⟩ = false := frozen_new _ _ _ _
        have b46 : Below wr.heap.size wr (w4.alloc (.cells #[.int .i64 (U' : Int), .int .i64 (V : Int)] 26)) := hb4.alloc hb4.size (.cells #[.int .i64 (U' : Int), .int .i64 (V : Int)] 26)
        have B46 := Lib.hid b46
        have z0 := (b46.cell (p := ⟨w2.heap.size, 0, none⟩) hL).trans hc0
        have z1 := (b46.cell (p := ⟨w2.heap.size, 1, none⟩) hL).trans hc1
        have y2 : (w4.alloc (.cells #[.int .i64 (U' : Int), .int .i64 (V : Int)] 26)).cell? ⟨w4.heap.size, 0, none⟩ = some (.int .i64 (U' : Int)) := cell_new w4 #[.int .i64 (U' : Int), .int .i64 (V : Int)] 26 0
        have y3 : (w4.alloc (.cells #[.int .i64 (U' : Int), .int .i64 (V : Int)] 26)).cell? ⟨w4.heap.size, 1, none⟩ = some (.int .i64 (V : Int)) := cell_new w4 #[.int .i64 (U' : Int), .int .i64 (V : Int)] 26 1
        clear hb4 b45 b46
        go_wp2_with fail
        refine (k52.out _).mono ?_
        rintro e w5 ⟨rfl, hb5⟩
        have b5' := below_step B46.out hb5
        obtain ⟨e1, e2⟩ := bcell b5'
        have c0' := (e1 _ 0 hL).trans hc0
        have c1' := (e1 _ 1 hL).trans hc1
        have f0 := (e2 _ 0 hL).trans (HFR.out 0)
        have f1 := (e2 _ 1 hL).trans (HFR.out 1)
        obtain ⟨X', hX'⟩ : ∃ X', X' = ratN (P1 + P2) P3 := ⟨_, rfl⟩
        obtain ⟨Y', hY'⟩ : ∃ Y', Y' = ratD (P1 + P2) P3 := ⟨_, rfl⟩
        rw [← hX', ← hY']
        have STP4 : Hid (X' = ratN (lossTo k goal s (m + 1)) (allG k) ∧ Y' = ratD (lossTo k goal s (m + 1)) (allG k)) := ⟨hX'.trans STP3.out.1, hY'.trans STP3.out.2⟩
        have G5 : Hid (wr.grownBy ((w5.setCell ⟨w2.heap.size, 0, none⟩ (.int .i64 (X' : Int))).setCell ⟨w2.heap.size, 1, none⟩ (.int .i64 (Y' : Int))) (some w2.heap.size)) := grown_trans (grown_below b5' _) (grown_trans (grown_set _ _ _ _) (grown_set _ _ _ _))
        have HR5 := Lib.hid (HROW.out.kept G5.out hsz3)
        have HB5 := Lib.hid b5'
        clear hX' hY' e1 hb5 b5' hc0 hc1 z0 z1 z2 z3 y2 y3 zf
        obtain ⟨w6, hw6⟩ : ∃ w6, w6 = (w5.setCell ⟨w2.heap.size, 0, none⟩ (.int .i64 (X' : Int))).setCell ⟨w2.heap.size, 1, none⟩ (.int .i64 (Y' : Int)) := ⟨_, rfl⟩
        have hs6 : w6.heap.size = w5.heap.size := by rw [hw6]; simp [World.setCell]
        have m0 : w6.cell? ⟨w2.heap.size, 0, none⟩ = some (.int .i64 (X' : Int)) := by
          rw [hw6, World.cell?_setCell_other _ _ _ _ (by simp)]; first | exact World.cell?_setCell_same c0' | exact World.cell?_setCell_same _ _ _ c0'
        have m1 : w6.cell? ⟨w2.heap.size, 1, none⟩ = some (.int .i64 (Y' : Int)) := by
          rw [hw6]
          have h : (w5.setCell ⟨w2.heap.size, 0, none⟩ (.int .i64 (X' : Int))).cell? ⟨w2.heap.size, 1, none⟩ = some (.int .i64 0) ∨ (w5.setCell ⟨w2.heap.size, 0, none⟩ (.int .i64 (X' : Int))).cell? ⟨w2.heap.size, 1, none⟩ = some (.int .i64 (Y : Int)) := .inr ((World.cell?_setCell_other _ _ _ _ (by simp)).trans c1')
          rcases h with h | h <;> first | exact World.cell?_setCell_same h | exact World.cell?_setCell_same _ _ _ h
        have F6 := Lib.hid (G5.out)
        rw [← hw6] at F6 HR5
        have FL : Hid (∀ jj, w6.frozen? ⟨w2.heap.size, jj, none⟩ = false) := fun jj => by
          rw [hw6]; simp [go_sem]; exact (e2 _ jj hL).trans (HFR.out jj)
        have HW6 := Lib.hid hw6
        have hcn : Hid ((w6.alloc (.cells #[.int .i64 1] 3)).cell? ⟨w5.heap.size, 0, none⟩ = some (.int .i64 1)) := by
          have h := cell_new w6 #[.int .i64 1] 3 0
          rw [hs6] at h; exact h
        clear e2
        have hln := HNS.out.1
        have hm10 : m ≤ 10 := by omega
        have hbase : w3.heap.size ≤ w5.heap.size := by have := HB5.out.size; omega
        have HBX : Hid (w3.heap.size ≤ (w6.alloc (.cells #[.int .i64 1] 3)).heap.size) := by unfold Hid; simp; omega
        have HRX : Hid (Row (w6.alloc (.cells #[.int .i64 1] 3)) w3.heap.size (.slice B m d) ns) := HR5.out.alloc _
        rw [hw6] at HBX HRX hcn
        have HBX' := HBX
        have HM := Lib.hid (And.intro m0 m1)
        have hs6' := Lib.hid hs6
        clear m0 m1 hw6 hs6
        go_wp2_with (at_builtin; refine wpList_push rfl (.tmp 72) (.tmp 77) rfl w3.heap.size _ ns rfl HRX.out w5.heap.size 1 1 rfl hcn.out ?hl HBX.out ?hr)
        case hl => omega
        case hr =>
          intro v' w7 hr hg
          rw [← HW6.out] at hg
          have hL6 : w2.heap.size < w6.heap.size := by rw [hs6'.out]; omega
          have hne : some w2.heap.size ≠ (Value.slice B m d).ownBlock := fun e => by
            have h := (World.ownsRow.lt HROW.out w2.heap.size e.symm).1
            omega
          have hL7 : w2.heap.size < (w6.alloc (.cells #[.int .i64 1] 3)).heap.size := by simp; omega
          have C7 : Hid (w7.cell? ⟨w2.heap.size, 0, none⟩ = some (.int .i64 (X' : Int)) ∧ w7.cell? ⟨w2.heap.size, 1, none⟩ = some (.int .i64 (Y' : Int)) ∧ ∀ jj, w7.frozen? ⟨w2.heap.size, jj, none⟩ = false) :=
            ⟨(hg.cell_far _ hL7 hne).trans (((below_alloc w6 _).cell hL6).trans HM.out.1), (hg.cell_far _ hL7 hne).trans (((below_alloc w6 _).cell hL6).trans HM.out.2), fun jj => (hg.frozen_far _ hL7 hne).trans (((bcell (below_alloc w6 (.cells #[.int .i64 1] 3))).2 _ jj hL6).trans (FL.out jj))⟩
          have HB7 : Hid (Below w2.heap.size w2 w7) :=
            below_grown ((HBL.out.grown F6.out (by omega) (fun q hq => by injection hq with hq; omega)).alloc (by omega) _) hg (by omega) (HR5.out.alloc _) (by omega)
          have HS7 : Hid (w3.heap.size ≤ w7.heap.size) := Nat.le_trans (by rw [HW6.out]; exact HBX'.out) hg.size
          have HR7 := Lib.hid hr
          clear hr hg hne hL7 hL6
          go_wp2
          go_roundw
          case rel =>
            obtain ⟨n1, n2, n3⟩ := HNS.out
            obtain ⟨c1, c2, c3⟩ := C7.out
            refine ⟨j, m + 1, ns ++ [1], by omega, rfl, HR7.out, ⟨by simp [n1], all_snoc n2 1 (.inr rfl), ?_⟩, by rw [← STP4.out.1]; exact c1, by rw [← STP4.out.2]; exact c2, c3, HB7.out, HS7.out⟩
            rw [bnum_snoc, n3]
            have h := half_bit s j
            rw [HBT.out] at h
            simpa using h.symm
          case measure => simp [intOf]
end Go.Proofs.Ytfaenbaaadjbbaa
