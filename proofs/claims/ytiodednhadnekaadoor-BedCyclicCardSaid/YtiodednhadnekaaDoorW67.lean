/- Walks: BedCyclic, both beds there. -/
import Derived.Test.YtiodednhadnekaaDoorPlain11
namespace Go.Proofs.YtiodednhadnekaaDoor
open Go.RowKit Go.Deep
attribute [local go_sem ↓] Go.wp_at_zero Go.wp_at_succ

set_option maxRecDepth 100000 in
set_option maxHeartbeats 8000000 in
/-- dibberlaw01.BedCyclic -/
theorem f11_lt (z a b : Nat) (w : World) (hz : z < 256) (ha : a < 256) (hb : b < 256) (ht : Tab w) (hsg : Nat.gcd (1 + a % (1 + z % 7)) (1 + z % 7) = 1) (htg : Nat.gcd (1 + b % (1 + z % 7)) (1 + z % 7) = 1) (hst : 1 + a % (1 + z % 7) < 1 + b % (1 + z % 7)) :
    Calls Tryd.prog 11 #[.int .u8 (z : Int), .int .u8 (a : Int), .int .u8 (b : Int)] w fun e w' => e = .returned (.bool true) ∧ Below w.heap.size w w' := by
  obtain ⟨n, hn⟩ : ∃ n, n = 1 + z % 7 := ⟨_, rfl⟩
  obtain ⟨s, hs⟩ : ∃ s, s = 1 + a % n := ⟨_, rfl⟩
  obtain ⟨t, ht2⟩ : ∃ t, t = 1 + b % n := ⟨_, rfl⟩
  rw [← hn] at hsg htg hst
  rw [← hs] at hsg hst
  rw [← ht2] at htg hst
  have n1 : 1 ≤ n := by omega
  have n7 : n ≤ 7 := by omega
  have s1 : 1 ≤ s := by omega
  have sn : s ≤ n := by have := Nat.mod_lt a (show 0 < n by omega); omega
  have t1 : 1 ≤ t := by omega
  have tn : t ≤ n := by have := Nat.mod_lt b (show 0 < n by omega); omega
  have K17 : Hid (∀ W, Below w.heap.size w W → Calls Tryd.prog 17 #[] W fun e w' => e = .returned (.bool true) ∧ Below W.heap.size W w') := Lib.hid fun W h => f17_any W (ht.below h)
  have e1 : (z : Int) % 7 = ((n - 1 : Nat) : Int) := by omega
  have e2 : (z : Int).tmod 7 = ((n - 1 : Nat) : Int) := by rw [Int.tmod_eq_emod_of_nonneg (by omega)]; omega
  have e3 : (1 : Int) + ((n - 1 : Nat) : Int) = (n : Int) := by omega
  have ea1 : (a : Int) % (n : Int) = ((s - 1 : Nat) : Int) := by
    have h : a % n = s - 1 := by omega
    rw [← h]; simp
  have ea2 : (a : Int).tmod (n : Int) = ((s - 1 : Nat) : Int) := by rw [Int.tmod_eq_emod_of_nonneg (by omega)]; exact ea1
  have ea3 : (1 : Int) + ((s - 1 : Nat) : Int) = (s : Int) := by omega
  have eb1 : (b : Int) % (n : Int) = ((t - 1 : Nat) : Int) := by
    have h : b % n = t - 1 := by omega
    rw [← h]; simp
  have eb2 : (b : Int).tmod (n : Int) = ((t - 1 : Nat) : Int) := by rw [Int.tmod_eq_emod_of_nonneg (by omega)]; exact eb1
  have eb3 : (1 : Int) + ((t - 1 : Nat) : Int) = (t : Int) := by omega
  have u1 : IntKind.i64.wrap ((n - 1 : Nat) : Int) = ((n - 1 : Nat) : Int) := IntWalk.i64_in _ (by omega)
  have u2 : IntKind.i64.wrap ((s - 1 : Nat) : Int) = ((s - 1 : Nat) : Int) := IntWalk.i64_in _ (by omega)
  have u3 : IntKind.i64.wrap ((t - 1 : Nat) : Int) = ((t - 1 : Nat) : Int) := IntWalk.i64_in _ (by omega)
  have u4 : IntKind.i64.wrap (s : Int) = (s : Int) := IntWalk.i64_in _ (by omega)
  have u5 : IntKind.i64.wrap (t : Int) = (t : Int) := IntWalk.i64_in _ (by omega)
  have u6 : IntKind.i64.wrap (a : Int) = (a : Int) := IntWalk.i64_in _ (by omega)
  have u7 : IntKind.i64.wrap (b : Int) = (b : Int) := IntWalk.i64_in _ (by omega)
  have u8 : IntKind.i64.wrap (z : Int) = (z : Int) := IntWalk.i64_in _ (by omega)
  have hne : ¬ ((n : Int) = 0) := by omega
  have hnz : ¬ (n = 0) := by omega
  generalize n - 1 = N1 at *
  generalize s - 1 = S1 at *
  generalize t - 1 = T1 at *
  have z0 : (0 : Int) ≤ (z : Int) := by omega
  have a0 : (0 : Int) ≤ (a : Int) := by omega
  have b0 : (0 : Int) ≤ (b : Int) := by omega
  have B0 : Hid (∀ q, Below w.heap.size w (w.drewN q)) := Lib.hid fun q => below_drewN (Below.refl _ _) q
  have K38s : Hid (∀ W, Below w.heap.size w W → Calls Tryd.prog 38 #[.int .i64 (n : Int), .int .i64 (s : Int)] W fun e w' => ∃ A c, e = .returned (.tuple #[.slice A n c, .int .i64 0]) ∧ Beds w' A n c (cycL n s) ∧ Below W.heap.size W w') := Lib.hid fun W _ => (f38_yes n s W ⟨by omega, by omega, by omega, by omega, by simpa using hsg⟩).mono fun _ _ ⟨A, c, h1, h2, h3⟩ => ⟨A, c, h1, h2.beds, h3⟩
  have K39s : Hid (∀ W, Calls Tryd.prog 39 #[.int .i64 (n : Int), .int .i64 (s : Int)] W fun e w' => e = .returned (.int .i64 1) ∧ ∃ q, w' = W.drewN q) := Lib.hid fun W => by
    have h := f39_any n s W (by omega) (by omega)
    rw [Nat.gcd_comm, hsg] at h
    exact h
  have K38t : Hid (∀ W, Below w.heap.size w W → Calls Tryd.prog 38 #[.int .i64 (n : Int), .int .i64 (t : Int)] W fun e w' => ∃ A c, e = .returned (.tuple #[.slice A n c, .int .i64 0]) ∧ Beds w' A n c (cycL n t) ∧ Below W.heap.size W w') := Lib.hid fun W _ => (f38_yes n t W ⟨by omega, by omega, by omega, by omega, by simpa using htg⟩).mono fun _ _ ⟨A, c, h1, h2, h3⟩ => ⟨A, c, h1, h2.beds, h3⟩
  have K39t : Hid (∀ W, Calls Tryd.prog 39 #[.int .i64 (n : Int), .int .i64 (t : Int)] W fun e w' => e = .returned (.int .i64 1) ∧ ∃ q, w' = W.drewN q) := Lib.hid fun W => by
    have h := f39_any n t W (by omega) (by omega)
    rw [Nat.gcd_comm, htg] at h
    exact h
  have K381 : Hid (∀ W, Below w.heap.size w W → Calls Tryd.prog 38 #[.int .i64 (n : Int), .int .i64 1] W fun e w' => ∃ A c, e = .returned (.tuple #[.slice A n c, .int .i64 0]) ∧ Beds w' A n c (cycL n 1) ∧ Below W.heap.size W w') := Lib.hid fun W _ => (f38_yes n 1 W ⟨by omega, by omega, by omega, by omega, by simp⟩).mono fun _ _ ⟨A, c, h1, h2, h3⟩ => ⟨A, c, h1, h2.beds, h3⟩
  have htr := cyc_tr n1 n7
  have hcl : Hid ((cycL n 1).length = n) := Lib.hid (by simp [cycL])
  have hpar : (∃ M : Nat, Hid (trN (cycL n 1) = (M : Int) ∧ trE (cycL n 1) = 0 ∧ (tvL (cycL n 1)).length = n ∧ tvE (cycL n 1) = 0) ∧ (n : Int) % 2 = 1 ∧ (n : Int).tmod 2 = 1 ∧ 0 < M ∧ (M : Int) % (n : Int) = 0 ∧ (M : Int).tmod (n : Int) = 0 ∧ M < 1000000) ∨ (Hid (trN (cycL n 1) = ((0 : Nat) : Int) ∧ trE (cycL n 1) = 0 ∧ (tvL (cycL n 1)).length = 0 ∧ tvE (cycL n 1) = 10) ∧ (n : Int) % 2 = 0 ∧ (n : Int).tmod 2 = 0) := by
    unfold cycTr at htr
    by_cases h : n % 2 = 1
    · rw [if_pos h] at htr
      simp only [Bool.and_eq_true, decide_eq_true_eq] at htr
      obtain ⟨M, hM⟩ := nat_of (trN (cycL n 1)) (by omega)
      rw [hM] at htr
      exact .inl ⟨M, ⟨hM, htr.1, htr.2.2, htr.2.1.2⟩, by omega, by rw [Int.tmod_eq_emod_of_nonneg (by omega)]; omega, by omega, htr.2.1.1.1.2, by rw [Int.tmod_eq_emod_of_nonneg (by omega)]; exact htr.2.1.1.1.2, by omega⟩
    · rw [if_neg h] at htr
      simp only [Bool.and_eq_true, decide_eq_true_eq] at htr
      exact .inr ⟨⟨by rw [htr.2.1.1]; rfl, htr.1, htr.2.2, htr.2.1.2⟩, by omega, by rw [Int.tmod_eq_emod_of_nonneg (by omega)]; omega⟩
  have hn0 : ((0 : Int) == (n : Int)) = false := by simp; omega
  have hn02 : ((n : Int) == 0) = false := by simp; omega
  have hn03 : (0 == n) = false := by simp; omega
  obtain ⟨g1, g2, g3⟩ := cyc_mate n7 s1 sn t1 tn hsg htg
  obtain ⟨X, hX⟩ : ∃ X, X = Nat.gcd n (dist s t) := ⟨_, rfl⟩
  obtain ⟨Dd, hD⟩ : ∃ D, D = dist s t := ⟨_, rfl⟩
  have g2 : matesB (cycL n s) (cycL n t) = decide (X = 1) := g2.trans (decide_eq_decide.2 (by rw [← hX]))
  have hD2 : Dd = t - s := by rw [hD]; unfold dist; omega
  have hDp : 0 < Dd := by omega
  have hDi : (0 : Int) < (Dd : Int) := by omega
  have d1 : (s : Int) - (t : Int) = -(Dd : Int) := by omega
  have d2 : (t : Int) - (s : Int) = (Dd : Int) := by omega
  have K39D : Hid (∀ W, Calls Tryd.prog 39 #[.int .i64 (n : Int), .int .i64 (Dd : Int)] W fun e w' => e = .returned (.int .i64 (X : Int)) ∧ ∃ q, w' = W.drewN q) := Lib.hid fun W => by
    have h := f39_any n Dd W (by omega) (by omega)
    rw [hX, ← hD]
    exact h
  have K32 : Hid (∀ (A : Option Addr) (c : Nat) (B : Option Addr) (d : Nat) (W : World), Beds W A n c (cycL n s) → Beds W B n d (cycL n t) → Calls Tryd.prog 32 #[.slice A n c, .slice B n d] W fun e w' => e = .returned (.tuple #[.bool (decide (X = 1)), .int .i64 0]) ∧ Below W.heap.size W w') := Lib.hid fun A c B d W h1 h2 => by
    have h := f32_any A B n n c d _ _ W h1 h2
    rw [g1, g2] at h
    exact h
  have hXc : (decide (X = 1) = true ∧ X = 1 ∧ ((n : Int) == 2) = false) ∨ (decide (X = 1) = false ∧ ((X : Int) == 1) = false ∧ (X == 1) = false ∧ True) := by
    by_cases h : X = 1
    · have := g3 (by rw [g2, h]; rfl)
      exact .inl ⟨decide_eq_true h, h, by simp; omega⟩
    · exact .inr ⟨decide_eq_false h, by simp; omega, by simp; omega, trivial⟩
  clear hn hs ht2 ht htr hsg htg g1 g2 g3 hX hD hD2 hst
  go_enter Tryd.func11, Tryd.ntmps11
  go_wp2
  go_quiet (fail)
  have Bq := Lib.hid (B0.out nq)
  generalize w.drewN nq = wq at *
  rcases hXc with ⟨hx1, hx2, hx3⟩ | ⟨hx1, hx2, hx3, hx4⟩
  all_goals
    rw [hx1] at K32
    clear hx1
    try subst hx2
    go_wp2_with fail
    refine (K38s.out _ Bq.out).mono ?_
    rintro e w1 ⟨As, cs, rfl, hN, hb⟩
    have B1 := Lib.hid (below_step Bq.out hb)
    have Ns := Lib.hid hN
    clear hN hb
    go_wp2_with fail
    refine (K38t.out _ B1.out).mono ?_
    rintro e w2 ⟨At, ct, rfl, hN, hb⟩
    have B2 := Lib.hid (below_step B1.out hb)
    have Ns2 := Lib.hid (Ns.out.below hb)
    have Nt2 := Lib.hid hN
    clear hN hb
    go_wp2_with fail
    refine (K39s.out _).mono ?_
    rintro e w3 ⟨rfl, q, rfl⟩
    have B3 := Lib.hid (below_drewN B2.out q)
    have Ns3 := Lib.hid (Ns2.out.drewN q)
    have Nt3 := Lib.hid (Nt2.out.drewN q)
    generalize w2.drewN q = w3 at *
    go_wp2_with fail
    refine (K39t.out _).mono ?_
    rintro e w4 ⟨rfl, q, rfl⟩
    have B4 := Lib.hid (below_drewN B3.out q)
    have Ns4 := Lib.hid (Ns3.out.drewN q)
    have Nt4 := Lib.hid (Nt3.out.drewN q)
    generalize w3.drewN q = w4 at *
    go_wp2_with fail
    refine (K32.out As cs At ct w4 Ns4.out Nt4.out).mono ?_
    rintro e w5 ⟨rfl, hb⟩
    have B5 := Lib.hid (below_step B4.out hb)
    clear hb
    go_wp2_with fail
    refine (K39D.out _).mono ?_
    rintro e w6 ⟨rfl, q, rfl⟩
    have B6 := Lib.hid (below_drewN B5.out q)
    generalize w5.drewN q = w6 at *
    clear Ns Ns2 Ns3 Ns4 Nt2 Nt3 Nt4 K32 K39D K39s K39t K38s K38t
    rcases hpar with ⟨M, htr, p1, p2, p3, p4, p5, p6⟩ | ⟨htr, p1, p2⟩
    all_goals
        go_wp2_with fail
        refine (K381.out _ B6.out).mono ?_
        rintro e w7 ⟨A1, c1, rfl, hN, hb⟩
        have F1 := Lib.hid (below_step B6.out hb)
        have N1 := Lib.hid hN
        clear hN hb
        have K30 := Lib.hid (f30_any A1 n c1 (cycL n 1) w7 N1.out)
        rw [htr.out.1, htr.out.2.1] at K30
        go_wp2_with fail
        refine K30.out.mono ?_
        rintro e w8 ⟨rfl, hb⟩
        have F2 := Lib.hid (below_step F1.out hb)
        have N2 := Lib.hid (N1.out.below hb)
        clear hb K30
        have K27 := Lib.hid (f27_any A1 n c1 (cycL n 1) w8 N2.out)
        rw [htr.out.2.2.1, htr.out.2.2.2] at K27
        go_wp2_with fail
        refine K27.out.mono ?_
        rintro e w9 ⟨A9, c9, rfl, _, hb⟩
        have F3 := Lib.hid (below_step F2.out hb)
        clear hb K27
        go_wp2_with fail
        refine (K17.out _ F3.out).mono ?_
        rintro e w10 ⟨rfl, hb⟩
        have F4 := Lib.hid (below_step F3.out hb)
        clear hb
        go_wp2
        go_ret
        exact ⟨rfl, F4.out⟩
set_option maxRecDepth 100000 in
set_option maxHeartbeats 8000000 in
/-- dibberlaw01.BedCyclic -/
theorem f11_eq (z a b : Nat) (w : World) (hz : z < 256) (ha : a < 256) (hb : b < 256) (ht : Tab w) (hsg : Nat.gcd (1 + a % (1 + z % 7)) (1 + z % 7) = 1) (htg : Nat.gcd (1 + b % (1 + z % 7)) (1 + z % 7) = 1) (hst : 1 + a % (1 + z % 7) = 1 + b % (1 + z % 7)) :
    Calls Tryd.prog 11 #[.int .u8 (z : Int), .int .u8 (a : Int), .int .u8 (b : Int)] w fun e w' => e = .returned (.bool true) ∧ Below w.heap.size w w' := by
  obtain ⟨n, hn⟩ : ∃ n, n = 1 + z % 7 := ⟨_, rfl⟩
  obtain ⟨s, hs⟩ : ∃ s, s = 1 + a % n := ⟨_, rfl⟩
  obtain ⟨t, ht2⟩ : ∃ t, t = 1 + b % n := ⟨_, rfl⟩
  rw [← hn] at hsg htg hst
  rw [← hs] at hsg hst
  rw [← ht2] at htg hst
  have n1 : 1 ≤ n := by omega
  have n7 : n ≤ 7 := by omega
  have s1 : 1 ≤ s := by omega
  have sn : s ≤ n := by have := Nat.mod_lt a (show 0 < n by omega); omega
  have t1 : 1 ≤ t := by omega
  have tn : t ≤ n := by have := Nat.mod_lt b (show 0 < n by omega); omega
  have K17 : Hid (∀ W, Below w.heap.size w W → Calls Tryd.prog 17 #[] W fun e w' => e = .returned (.bool true) ∧ Below W.heap.size W w') := Lib.hid fun W h => f17_any W (ht.below h)
  have e1 : (z : Int) % 7 = ((n - 1 : Nat) : Int) := by omega
  have e2 : (z : Int).tmod 7 = ((n - 1 : Nat) : Int) := by rw [Int.tmod_eq_emod_of_nonneg (by omega)]; omega
  have e3 : (1 : Int) + ((n - 1 : Nat) : Int) = (n : Int) := by omega
  have ea1 : (a : Int) % (n : Int) = ((s - 1 : Nat) : Int) := by
    have h : a % n = s - 1 := by omega
    rw [← h]; simp
  have ea2 : (a : Int).tmod (n : Int) = ((s - 1 : Nat) : Int) := by rw [Int.tmod_eq_emod_of_nonneg (by omega)]; exact ea1
  have ea3 : (1 : Int) + ((s - 1 : Nat) : Int) = (s : Int) := by omega
  have eb1 : (b : Int) % (n : Int) = ((t - 1 : Nat) : Int) := by
    have h : b % n = t - 1 := by omega
    rw [← h]; simp
  have eb2 : (b : Int).tmod (n : Int) = ((t - 1 : Nat) : Int) := by rw [Int.tmod_eq_emod_of_nonneg (by omega)]; exact eb1
  have eb3 : (1 : Int) + ((t - 1 : Nat) : Int) = (t : Int) := by omega
  have u1 : IntKind.i64.wrap ((n - 1 : Nat) : Int) = ((n - 1 : Nat) : Int) := IntWalk.i64_in _ (by omega)
  have u2 : IntKind.i64.wrap ((s - 1 : Nat) : Int) = ((s - 1 : Nat) : Int) := IntWalk.i64_in _ (by omega)
  have u3 : IntKind.i64.wrap ((t - 1 : Nat) : Int) = ((t - 1 : Nat) : Int) := IntWalk.i64_in _ (by omega)
  have u4 : IntKind.i64.wrap (s : Int) = (s : Int) := IntWalk.i64_in _ (by omega)
  have u5 : IntKind.i64.wrap (t : Int) = (t : Int) := IntWalk.i64_in _ (by omega)
  have u6 : IntKind.i64.wrap (a : Int) = (a : Int) := IntWalk.i64_in _ (by omega)
  have u7 : IntKind.i64.wrap (b : Int) = (b : Int) := IntWalk.i64_in _ (by omega)
  have u8 : IntKind.i64.wrap (z : Int) = (z : Int) := IntWalk.i64_in _ (by omega)
  have hne : ¬ ((n : Int) = 0) := by omega
  have hnz : ¬ (n = 0) := by omega
  generalize n - 1 = N1 at *
  generalize s - 1 = S1 at *
  generalize t - 1 = T1 at *
  have z0 : (0 : Int) ≤ (z : Int) := by omega
  have a0 : (0 : Int) ≤ (a : Int) := by omega
  have b0 : (0 : Int) ≤ (b : Int) := by omega
  have B0 : Hid (∀ q, Below w.heap.size w (w.drewN q)) := Lib.hid fun q => below_drewN (Below.refl _ _) q
  have K38s : Hid (∀ W, Below w.heap.size w W → Calls Tryd.prog 38 #[.int .i64 (n : Int), .int .i64 (s : Int)] W fun e w' => ∃ A c, e = .returned (.tuple #[.slice A n c, .int .i64 0]) ∧ Beds w' A n c (cycL n s) ∧ Below W.heap.size W w') := Lib.hid fun W _ => (f38_yes n s W ⟨by omega, by omega, by omega, by omega, by simpa using hsg⟩).mono fun _ _ ⟨A, c, h1, h2, h3⟩ => ⟨A, c, h1, h2.beds, h3⟩
  have K39s : Hid (∀ W, Calls Tryd.prog 39 #[.int .i64 (n : Int), .int .i64 (s : Int)] W fun e w' => e = .returned (.int .i64 1) ∧ ∃ q, w' = W.drewN q) := Lib.hid fun W => by
    have h := f39_any n s W (by omega) (by omega)
    rw [Nat.gcd_comm, hsg] at h
    exact h
  have K38t : Hid (∀ W, Below w.heap.size w W → Calls Tryd.prog 38 #[.int .i64 (n : Int), .int .i64 (t : Int)] W fun e w' => ∃ A c, e = .returned (.tuple #[.slice A n c, .int .i64 0]) ∧ Beds w' A n c (cycL n t) ∧ Below W.heap.size W w') := Lib.hid fun W _ => (f38_yes n t W ⟨by omega, by omega, by omega, by omega, by simpa using htg⟩).mono fun _ _ ⟨A, c, h1, h2, h3⟩ => ⟨A, c, h1, h2.beds, h3⟩
  have K39t : Hid (∀ W, Calls Tryd.prog 39 #[.int .i64 (n : Int), .int .i64 (t : Int)] W fun e w' => e = .returned (.int .i64 1) ∧ ∃ q, w' = W.drewN q) := Lib.hid fun W => by
    have h := f39_any n t W (by omega) (by omega)
    rw [Nat.gcd_comm, htg] at h
    exact h
  have K381 : Hid (∀ W, Below w.heap.size w W → Calls Tryd.prog 38 #[.int .i64 (n : Int), .int .i64 1] W fun e w' => ∃ A c, e = .returned (.tuple #[.slice A n c, .int .i64 0]) ∧ Beds w' A n c (cycL n 1) ∧ Below W.heap.size W w') := Lib.hid fun W _ => (f38_yes n 1 W ⟨by omega, by omega, by omega, by omega, by simp⟩).mono fun _ _ ⟨A, c, h1, h2, h3⟩ => ⟨A, c, h1, h2.beds, h3⟩
  have htr := cyc_tr n1 n7
  have hcl : Hid ((cycL n 1).length = n) := Lib.hid (by simp [cycL])
  have hpar : (∃ M : Nat, Hid (trN (cycL n 1) = (M : Int) ∧ trE (cycL n 1) = 0 ∧ (tvL (cycL n 1)).length = n ∧ tvE (cycL n 1) = 0) ∧ (n : Int) % 2 = 1 ∧ (n : Int).tmod 2 = 1 ∧ 0 < M ∧ (M : Int) % (n : Int) = 0 ∧ (M : Int).tmod (n : Int) = 0 ∧ M < 1000000) ∨ (Hid (trN (cycL n 1) = ((0 : Nat) : Int) ∧ trE (cycL n 1) = 0 ∧ (tvL (cycL n 1)).length = 0 ∧ tvE (cycL n 1) = 10) ∧ (n : Int) % 2 = 0 ∧ (n : Int).tmod 2 = 0) := by
    unfold cycTr at htr
    by_cases h : n % 2 = 1
    · rw [if_pos h] at htr
      simp only [Bool.and_eq_true, decide_eq_true_eq] at htr
      obtain ⟨M, hM⟩ := nat_of (trN (cycL n 1)) (by omega)
      rw [hM] at htr
      exact .inl ⟨M, ⟨hM, htr.1, htr.2.2, htr.2.1.2⟩, by omega, by rw [Int.tmod_eq_emod_of_nonneg (by omega)]; omega, by omega, htr.2.1.1.1.2, by rw [Int.tmod_eq_emod_of_nonneg (by omega)]; exact htr.2.1.1.1.2, by omega⟩
    · rw [if_neg h] at htr
      simp only [Bool.and_eq_true, decide_eq_true_eq] at htr
      exact .inr ⟨⟨by rw [htr.2.1.1]; rfl, htr.1, htr.2.2, htr.2.1.2⟩, by omega, by rw [Int.tmod_eq_emod_of_nonneg (by omega)]; omega⟩
  have hn0 : ((0 : Int) == (n : Int)) = false := by simp; omega
  have hn02 : ((n : Int) == 0) = false := by simp; omega
  have hn03 : (0 == n) = false := by simp; omega
  obtain ⟨g1, g2, g3⟩ := cyc_mate n7 s1 sn t1 tn hsg htg
  obtain ⟨X, hX⟩ : ∃ X, X = Nat.gcd n (dist s t) := ⟨_, rfl⟩
  obtain ⟨Dd, hD⟩ : ∃ D, D = dist s t := ⟨_, rfl⟩
  have g2 : matesB (cycL n s) (cycL n t) = decide (X = 1) := g2.trans (decide_eq_decide.2 (by rw [← hX]))
  have hD2 : Dd = 0 := by rw [hD]; unfold dist; omega
  have d1 : (s : Int) - (t : Int) = 0 := by omega
  have d2 : (t : Int) - (s : Int) = 0 := by omega
  have K39D : Hid (∀ W, Calls Tryd.prog 39 #[.int .i64 (n : Int), .int .i64 (Dd : Int)] W fun e w' => e = .returned (.int .i64 (X : Int)) ∧ ∃ q, w' = W.drewN q) := Lib.hid fun W => by
    have h := f39_any n Dd W (by omega) (by omega)
    rw [hX, ← hD]
    exact h
  rw [hD2] at K39D
  have K32 : Hid (∀ (A : Option Addr) (c : Nat) (B : Option Addr) (d : Nat) (W : World), Beds W A n c (cycL n s) → Beds W B n d (cycL n t) → Calls Tryd.prog 32 #[.slice A n c, .slice B n d] W fun e w' => e = .returned (.tuple #[.bool (decide (X = 1)), .int .i64 0]) ∧ Below W.heap.size W w') := Lib.hid fun A c B d W h1 h2 => by
    have h := f32_any A B n n c d _ _ W h1 h2
    rw [g1, g2] at h
    exact h
  have hXc : (decide (X = 1) = true ∧ X = 1 ∧ ((n : Int) == 2) = false) ∨ (decide (X = 1) = false ∧ ((X : Int) == 1) = false ∧ (X == 1) = false ∧ True) := by
    by_cases h : X = 1
    · have := g3 (by rw [g2, h]; rfl)
      exact .inl ⟨decide_eq_true h, h, by simp; omega⟩
    · exact .inr ⟨decide_eq_false h, by simp; omega, by simp; omega, trivial⟩
  clear hn hs ht2 ht htr hsg htg g1 g2 g3 hX hD hD2 hst
  go_enter Tryd.func11, Tryd.ntmps11
  go_wp2
  go_quiet (fail)
  have Bq := Lib.hid (B0.out nq)
  generalize w.drewN nq = wq at *
  rcases hXc with ⟨hx1, hx2, hx3⟩ | ⟨hx1, hx2, hx3, hx4⟩
  all_goals
    rw [hx1] at K32
    clear hx1
    try subst hx2
    go_wp2_with fail
    refine (K38s.out _ Bq.out).mono ?_
    rintro e w1 ⟨As, cs, rfl, hN, hb⟩
    have B1 := Lib.hid (below_step Bq.out hb)
    have Ns := Lib.hid hN
    clear hN hb
    go_wp2_with fail
    refine (K38t.out _ B1.out).mono ?_
    rintro e w2 ⟨At, ct, rfl, hN, hb⟩
    have B2 := Lib.hid (below_step B1.out hb)
    have Ns2 := Lib.hid (Ns.out.below hb)
    have Nt2 := Lib.hid hN
    clear hN hb
    go_wp2_with fail
    refine (K39s.out _).mono ?_
    rintro e w3 ⟨rfl, q, rfl⟩
    have B3 := Lib.hid (below_drewN B2.out q)
    have Ns3 := Lib.hid (Ns2.out.drewN q)
    have Nt3 := Lib.hid (Nt2.out.drewN q)
    generalize w2.drewN q = w3 at *
    go_wp2_with fail
    refine (K39t.out _).mono ?_
    rintro e w4 ⟨rfl, q, rfl⟩
    have B4 := Lib.hid (below_drewN B3.out q)
    have Ns4 := Lib.hid (Ns3.out.drewN q)
    have Nt4 := Lib.hid (Nt3.out.drewN q)
    generalize w3.drewN q = w4 at *
    go_wp2_with fail
    refine (K32.out As cs At ct w4 Ns4.out Nt4.out).mono ?_
    rintro e w5 ⟨rfl, hb⟩
    have B5 := Lib.hid (below_step B4.out hb)
    clear hb
    go_wp2_with fail
    refine (K39D.out _).mono ?_
    rintro e w6 ⟨rfl, q, rfl⟩
    have B6 := Lib.hid (below_drewN B5.out q)
    generalize w5.drewN q = w6 at *
    clear Ns Ns2 Ns3 Ns4 Nt2 Nt3 Nt4 K32 K39D K39s K39t K38s K38t
    rcases hpar with ⟨M, htr, p1, p2, p3, p4, p5, p6⟩ | ⟨htr, p1, p2⟩
    all_goals
        go_wp2_with fail
        refine (K381.out _ B6.out).mono ?_
        rintro e w7 ⟨A1, c1, rfl, hN, hb⟩
        have F1 := Lib.hid (below_step B6.out hb)
        have N1 := Lib.hid hN
        clear hN hb
        have K30 := Lib.hid (f30_any A1 n c1 (cycL n 1) w7 N1.out)
        rw [htr.out.1, htr.out.2.1] at K30
        go_wp2_with fail
        refine K30.out.mono ?_
        rintro e w8 ⟨rfl, hb⟩
        have F2 := Lib.hid (below_step F1.out hb)
        have N2 := Lib.hid (N1.out.below hb)
        clear hb K30
        have K27 := Lib.hid (f27_any A1 n c1 (cycL n 1) w8 N2.out)
        rw [htr.out.2.2.1, htr.out.2.2.2] at K27
        go_wp2_with fail
        refine K27.out.mono ?_
        rintro e w9 ⟨A9, c9, rfl, _, hb⟩
        have F3 := Lib.hid (below_step F2.out hb)
        clear hb K27
        go_wp2_with fail
        refine (K17.out _ F3.out).mono ?_
        rintro e w10 ⟨rfl, hb⟩
        have F4 := Lib.hid (below_step F3.out hb)
        clear hb
        go_wp2
        go_ret
        exact ⟨rfl, F4.out⟩
set_option maxRecDepth 100000 in
set_option maxHeartbeats 8000000 in
/-- dibberlaw01.BedCyclic -/
theorem f11_gt (z a b : Nat) (w : World) (hz : z < 256) (ha : a < 256) (hb : b < 256) (ht : Tab w) (hsg : Nat.gcd (1 + a % (1 + z % 7)) (1 + z % 7) = 1) (htg : Nat.gcd (1 + b % (1 + z % 7)) (1 + z % 7) = 1) (hst : 1 + b % (1 + z % 7) < 1 + a % (1 + z % 7)) :
    Calls Tryd.prog 11 #[.int .u8 (z : Int), .int .u8 (a : Int), .int .u8 (b : Int)] w fun e w' => e = .returned (.bool true) ∧ Below w.heap.size w w' := by
  obtain ⟨n, hn⟩ : ∃ n, n = 1 + z % 7 := ⟨_, rfl⟩
  obtain ⟨s, hs⟩ : ∃ s, s = 1 + a % n := ⟨_, rfl⟩
  obtain ⟨t, ht2⟩ : ∃ t, t = 1 + b % n := ⟨_, rfl⟩
  rw [← hn] at hsg htg hst
  rw [← hs] at hsg hst
  rw [← ht2] at htg hst
  have n1 : 1 ≤ n := by omega
  have n7 : n ≤ 7 := by omega
  have s1 : 1 ≤ s := by omega
  have sn : s ≤ n := by have := Nat.mod_lt a (show 0 < n by omega); omega
  have t1 : 1 ≤ t := by omega
  have tn : t ≤ n := by have := Nat.mod_lt b (show 0 < n by omega); omega
  have K17 : Hid (∀ W, Below w.heap.size w W → Calls Tryd.prog 17 #[] W fun e w' => e = .returned (.bool true) ∧ Below W.heap.size W w') := Lib.hid fun W h => f17_any W (ht.below h)
  have e1 : (z : Int) % 7 = ((n - 1 : Nat) : Int) := by omega
  have e2 : (z : Int).tmod 7 = ((n - 1 : Nat) : Int) := by rw [Int.tmod_eq_emod_of_nonneg (by omega)]; omega
  have e3 : (1 : Int) + ((n - 1 : Nat) : Int) = (n : Int) := by omega
  have ea1 : (a : Int) % (n : Int) = ((s - 1 : Nat) : Int) := by
    have h : a % n = s - 1 := by omega
    rw [← h]; simp
  have ea2 : (a : Int).tmod (n : Int) = ((s - 1 : Nat) : Int) := by rw [Int.tmod_eq_emod_of_nonneg (by omega)]; exact ea1
  have ea3 : (1 : Int) + ((s - 1 : Nat) : Int) = (s : Int) := by omega
  have eb1 : (b : Int) % (n : Int) = ((t - 1 : Nat) : Int) := by
    have h : b % n = t - 1 := by omega
    rw [← h]; simp
  have eb2 : (b : Int).tmod (n : Int) = ((t - 1 : Nat) : Int) := by rw [Int.tmod_eq_emod_of_nonneg (by omega)]; exact eb1
  have eb3 : (1 : Int) + ((t - 1 : Nat) : Int) = (t : Int) := by omega
  have u1 : IntKind.i64.wrap ((n - 1 : Nat) : Int) = ((n - 1 : Nat) : Int) := IntWalk.i64_in _ (by omega)
  have u2 : IntKind.i64.wrap ((s - 1 : Nat) : Int) = ((s - 1 : Nat) : Int) := IntWalk.i64_in _ (by omega)
  have u3 : IntKind.i64.wrap ((t - 1 : Nat) : Int) = ((t - 1 : Nat) : Int) := IntWalk.i64_in _ (by omega)
  have u4 : IntKind.i64.wrap (s : Int) = (s : Int) := IntWalk.i64_in _ (by omega)
  have u5 : IntKind.i64.wrap (t : Int) = (t : Int) := IntWalk.i64_in _ (by omega)
  have u6 : IntKind.i64.wrap (a : Int) = (a : Int) := IntWalk.i64_in _ (by omega)
  have u7 : IntKind.i64.wrap (b : Int) = (b : Int) := IntWalk.i64_in _ (by omega)
  have u8 : IntKind.i64.wrap (z : Int) = (z : Int) := IntWalk.i64_in _ (by omega)
  have hne : ¬ ((n : Int) = 0) := by omega
  have hnz : ¬ (n = 0) := by omega
  generalize n - 1 = N1 at *
  generalize s - 1 = S1 at *
  generalize t - 1 = T1 at *
  have z0 : (0 : Int) ≤ (z : Int) := by omega
  have a0 : (0 : Int) ≤ (a : Int) := by omega
  have b0 : (0 : Int) ≤ (b : Int) := by omega
  have B0 : Hid (∀ q, Below w.heap.size w (w.drewN q)) := Lib.hid fun q => below_drewN (Below.refl _ _) q
  have K38s : Hid (∀ W, Below w.heap.size w W → Calls Tryd.prog 38 #[.int .i64 (n : Int), .int .i64 (s : Int)] W fun e w' => ∃ A c, e = .returned (.tuple #[.slice A n c, .int .i64 0]) ∧ Beds w' A n c (cycL n s) ∧ Below W.heap.size W w') := Lib.hid fun W _ => (f38_yes n s W ⟨by omega, by omega, by omega, by omega, by simpa using hsg⟩).mono fun _ _ ⟨A, c, h1, h2, h3⟩ => ⟨A, c, h1, h2.beds, h3⟩
  have K39s : Hid (∀ W, Calls Tryd.prog 39 #[.int .i64 (n : Int), .int .i64 (s : Int)] W fun e w' => e = .returned (.int .i64 1) ∧ ∃ q, w' = W.drewN q) := Lib.hid fun W => by
    have h := f39_any n s W (by omega) (by omega)
    rw [Nat.gcd_comm, hsg] at h
    exact h
  have K38t : Hid (∀ W, Below w.heap.size w W → Calls Tryd.prog 38 #[.int .i64 (n : Int), .int .i64 (t : Int)] W fun e w' => ∃ A c, e = .returned (.tuple #[.slice A n c, .int .i64 0]) ∧ Beds w' A n c (cycL n t) ∧ Below W.heap.size W w') := Lib.hid fun W _ => (f38_yes n t W ⟨by omega, by omega, by omega, by omega, by simpa using htg⟩).mono fun _ _ ⟨A, c, h1, h2, h3⟩ => ⟨A, c, h1, h2.beds, h3⟩
  have K39t : Hid (∀ W, Calls Tryd.prog 39 #[.int .i64 (n : Int), .int .i64 (t : Int)] W fun e w' => e = .returned (.int .i64 1) ∧ ∃ q, w' = W.drewN q) := Lib.hid fun W => by
    have h := f39_any n t W (by omega) (by omega)
    rw [Nat.gcd_comm, htg] at h
    exact h
  have K381 : Hid (∀ W, Below w.heap.size w W → Calls Tryd.prog 38 #[.int .i64 (n : Int), .int .i64 1] W fun e w' => ∃ A c, e = .returned (.tuple #[.slice A n c, .int .i64 0]) ∧ Beds w' A n c (cycL n 1) ∧ Below W.heap.size W w') := Lib.hid fun W _ => (f38_yes n 1 W ⟨by omega, by omega, by omega, by omega, by simp⟩).mono fun _ _ ⟨A, c, h1, h2, h3⟩ => ⟨A, c, h1, h2.beds, h3⟩
  have htr := cyc_tr n1 n7
  have hcl : Hid ((cycL n 1).length = n) := Lib.hid (by simp [cycL])
  have hpar : (∃ M : Nat, Hid (trN (cycL n 1) = (M : Int) ∧ trE (cycL n 1) = 0 ∧ (tvL (cycL n 1)).length = n ∧ tvE (cycL n 1) = 0) ∧ (n : Int) % 2 = 1 ∧ (n : Int).tmod 2 = 1 ∧ 0 < M ∧ (M : Int) % (n : Int) = 0 ∧ (M : Int).tmod (n : Int) = 0 ∧ M < 1000000) ∨ (Hid (trN (cycL n 1) = ((0 : Nat) : Int) ∧ trE (cycL n 1) = 0 ∧ (tvL (cycL n 1)).length = 0 ∧ tvE (cycL n 1) = 10) ∧ (n : Int) % 2 = 0 ∧ (n : Int).tmod 2 = 0) := by
    unfold cycTr at htr
    by_cases h : n % 2 = 1
    · rw [if_pos h] at htr
      simp only [Bool.and_eq_true, decide_eq_true_eq] at htr
      obtain ⟨M, hM⟩ := nat_of (trN (cycL n 1)) (by omega)
      rw [hM] at htr
      exact .inl ⟨M, ⟨hM, htr.1, htr.2.2, htr.2.1.2⟩, by omega, by rw [Int.tmod_eq_emod_of_nonneg (by omega)]; omega, by omega, htr.2.1.1.1.2, by rw [Int.tmod_eq_emod_of_nonneg (by omega)]; exact htr.2.1.1.1.2, by omega⟩
    · rw [if_neg h] at htr
      simp only [Bool.and_eq_true, decide_eq_true_eq] at htr
      exact .inr ⟨⟨by rw [htr.2.1.1]; rfl, htr.1, htr.2.2, htr.2.1.2⟩, by omega, by rw [Int.tmod_eq_emod_of_nonneg (by omega)]; omega⟩
  have hn0 : ((0 : Int) == (n : Int)) = false := by simp; omega
  have hn02 : ((n : Int) == 0) = false := by simp; omega
  have hn03 : (0 == n) = false := by simp; omega
  obtain ⟨g1, g2, g3⟩ := cyc_mate n7 s1 sn t1 tn hsg htg
  obtain ⟨X, hX⟩ : ∃ X, X = Nat.gcd n (dist s t) := ⟨_, rfl⟩
  obtain ⟨Dd, hD⟩ : ∃ D, D = dist s t := ⟨_, rfl⟩
  have g2 : matesB (cycL n s) (cycL n t) = decide (X = 1) := g2.trans (decide_eq_decide.2 (by rw [← hX]))
  have hD2 : Dd = s - t := by rw [hD]; unfold dist; omega
  have d1 : (s : Int) - (t : Int) = (Dd : Int) := by omega
  have d2 : (t : Int) - (s : Int) = -(Dd : Int) := by omega
  have K39D : Hid (∀ W, Calls Tryd.prog 39 #[.int .i64 (n : Int), .int .i64 (Dd : Int)] W fun e w' => e = .returned (.int .i64 (X : Int)) ∧ ∃ q, w' = W.drewN q) := Lib.hid fun W => by
    have h := f39_any n Dd W (by omega) (by omega)
    rw [hX, ← hD]
    exact h
  have K32 : Hid (∀ (A : Option Addr) (c : Nat) (B : Option Addr) (d : Nat) (W : World), Beds W A n c (cycL n s) → Beds W B n d (cycL n t) → Calls Tryd.prog 32 #[.slice A n c, .slice B n d] W fun e w' => e = .returned (.tuple #[.bool (decide (X = 1)), .int .i64 0]) ∧ Below W.heap.size W w') := Lib.hid fun A c B d W h1 h2 => by
    have h := f32_any A B n n c d _ _ W h1 h2
    rw [g1, g2] at h
    exact h
  have hXc : (decide (X = 1) = true ∧ X = 1 ∧ ((n : Int) == 2) = false) ∨ (decide (X = 1) = false ∧ ((X : Int) == 1) = false ∧ (X == 1) = false ∧ True) := by
    by_cases h : X = 1
    · have := g3 (by rw [g2, h]; rfl)
      exact .inl ⟨decide_eq_true h, h, by simp; omega⟩
    · exact .inr ⟨decide_eq_false h, by simp; omega, by simp; omega, trivial⟩
  clear hn hs ht2 ht htr hsg htg g1 g2 g3 hX hD hD2 hst
  go_enter Tryd.func11, Tryd.ntmps11
  go_wp2
  go_quiet (fail)
  have Bq := Lib.hid (B0.out nq)
  generalize w.drewN nq = wq at *
  rcases hXc with ⟨hx1, hx2, hx3⟩ | ⟨hx1, hx2, hx3, hx4⟩
  all_goals
    rw [hx1] at K32
    clear hx1
    try subst hx2
    go_wp2_with fail
    refine (K38s.out _ Bq.out).mono ?_
    rintro e w1 ⟨As, cs, rfl, hN, hb⟩
    have B1 := Lib.hid (below_step Bq.out hb)
    have Ns := Lib.hid hN
    clear hN hb
    go_wp2_with fail
    refine (K38t.out _ B1.out).mono ?_
    rintro e w2 ⟨At, ct, rfl, hN, hb⟩
    have B2 := Lib.hid (below_step B1.out hb)
    have Ns2 := Lib.hid (Ns.out.below hb)
    have Nt2 := Lib.hid hN
    clear hN hb
    go_wp2_with fail
    refine (K39s.out _).mono ?_
    rintro e w3 ⟨rfl, q, rfl⟩
    have B3 := Lib.hid (below_drewN B2.out q)
    have Ns3 := Lib.hid (Ns2.out.drewN q)
    have Nt3 := Lib.hid (Nt2.out.drewN q)
    generalize w2.drewN q = w3 at *
    go_wp2_with fail
    refine (K39t.out _).mono ?_
    rintro e w4 ⟨rfl, q, rfl⟩
    have B4 := Lib.hid (below_drewN B3.out q)
    have Ns4 := Lib.hid (Ns3.out.drewN q)
    have Nt4 := Lib.hid (Nt3.out.drewN q)
    generalize w3.drewN q = w4 at *
    go_wp2_with fail
    refine (K32.out As cs At ct w4 Ns4.out Nt4.out).mono ?_
    rintro e w5 ⟨rfl, hb⟩
    have B5 := Lib.hid (below_step B4.out hb)
    clear hb
    go_wp2_with fail
    refine (K39D.out _).mono ?_
    rintro e w6 ⟨rfl, q, rfl⟩
    have B6 := Lib.hid (below_drewN B5.out q)
    generalize w5.drewN q = w6 at *
    clear Ns Ns2 Ns3 Ns4 Nt2 Nt3 Nt4 K32 K39D K39s K39t K38s K38t
    rcases hpar with ⟨M, htr, p1, p2, p3, p4, p5, p6⟩ | ⟨htr, p1, p2⟩
    all_goals
        go_wp2_with fail
        refine (K381.out _ B6.out).mono ?_
        rintro e w7 ⟨A1, c1, rfl, hN, hb⟩
        have F1 := Lib.hid (below_step B6.out hb)
        have N1 := Lib.hid hN
        clear hN hb
        have K30 := Lib.hid (f30_any A1 n c1 (cycL n 1) w7 N1.out)
        rw [htr.out.1, htr.out.2.1] at K30
        go_wp2_with fail
        refine K30.out.mono ?_
        rintro e w8 ⟨rfl, hb⟩
        have F2 := Lib.hid (below_step F1.out hb)
        have N2 := Lib.hid (N1.out.below hb)
        clear hb K30
        have K27 := Lib.hid (f27_any A1 n c1 (cycL n 1) w8 N2.out)
        rw [htr.out.2.2.1, htr.out.2.2.2] at K27
        go_wp2_with fail
        refine K27.out.mono ?_
        rintro e w9 ⟨A9, c9, rfl, _, hb⟩
        have F3 := Lib.hid (below_step F2.out hb)
        clear hb K27
        go_wp2_with fail
        refine (K17.out _ F3.out).mono ?_
        rintro e w10 ⟨rfl, hb⟩
        have F4 := Lib.hid (below_step F3.out hb)
        clear hb
        go_wp2
        go_ret
        exact ⟨rfl, F4.out⟩
end Go.Proofs.YtiodednhadnekaaDoor
