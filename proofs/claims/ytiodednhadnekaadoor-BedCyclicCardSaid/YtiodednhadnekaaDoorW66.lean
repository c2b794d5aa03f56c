/- Walks: BedCyclic, not both beds there. -/
import Derived.Test.YtiodednhadnekaaDoorPlain11
namespace Go.Proofs.YtiodednhadnekaaDoor
open Go.RowKit Go.Deep
attribute [local go_sem ↓] Go.wp_at_zero Go.wp_at_succ

set_option maxRecDepth 100000 in
set_option maxHeartbeats 8000000 in
/-- dibberlaw01.BedCyclic -/
theorem f11_ny (z a b : Nat) (w : World) (hz : z < 256) (ha : a < 256) (hb : b < 256) (ht : Tab w) (hsg : ¬ Nat.gcd (1 + a % (1 + z % 7)) (1 + z % 7) = 1) (htg : Nat.gcd (1 + b % (1 + z % 7)) (1 + z % 7) = 1) :
    Calls Tryd.prog 11 #[.int .u8 (z : Int), .int .u8 (a : Int), .int .u8 (b : Int)] w fun e w' => e = .returned (.bool true) ∧ Below w.heap.size w w' := by
  obtain ⟨n, hn⟩ : ∃ n, n = 1 + z % 7 := ⟨_, rfl⟩
  obtain ⟨s, hs⟩ : ∃ s, s = 1 + a % n := ⟨_, rfl⟩
  obtain ⟨t, ht2⟩ : ∃ t, t = 1 + b % n := ⟨_, rfl⟩
  rw [← hn] at hsg htg
  rw [← hs] at hsg
  rw [← ht2] at htg
  have n1 : 1 ≤ n := by omega
  have n7 : n ≤ 7 := by omega
  have s1 : 1 ≤ s := by omega
  have sn : s ≤ n := by have := Nat.mod_lt a (show 0 < n by omega); omega
  have t1 : 1 ≤ t := by omega
  have tn : t ≤ n := by have := Nat.mod_lt b (show 0 < n by omega); omega
  have K17 : Hid (∀ W, Below w.heap.size w W → Calls Tryd.prog 17 #[] W fun e w' => e = .returned (.bool true) ∧ Below W.heap.size W w') := Lib.hid fun W h => f17_any W (ht.below h)
  have e1 : (z : Int) % 7 = ((n - 1 : Nat) : Int) := by omega
  have e2 : (z : Int).tmod 7 = ((n - 1 : Nat) : Int) := by rw [Int.tmod_eq_emod_of_nonneg (by omega)]; omega
  have e3 : (1 : Int) + ((n - 1 : Nat) : Int) = (n : Int) := by omega
  have ea1 : (a : Int) % (n : Int) = ((s - 1 : Nat) : Int) := by
    have h : a % n = s - 1 := by omega
    rw [← h]; simp
  have ea2 : (a : Int).tmod (n : Int) = ((s - 1 : Nat) : Int) := by rw [Int.tmod_eq_emod_of_nonneg (by omega)]; exact ea1
  have ea3 : (1 : Int) + ((s - 1 : Nat) : Int) = (s : Int) := by omega
  have eb1 : (b : Int) % (n : Int) = ((t - 1 : Nat) : Int) := by
    have h : b % n = t - 1 := by omega
    rw [← h]; simp
  have eb2 : (b : Int).tmod (n : Int) = ((t - 1 : Nat) : Int) := by rw [Int.tmod_eq_emod_of_nonneg (by omega)]; exact eb1
  have eb3 : (1 : Int) + ((t - 1 : Nat) : Int) = (t : Int) := by omega
  have u1 : IntKind.i64.wrap ((n - 1 : Nat) : Int) = ((n - 1 : Nat) : Int) := IntWalk.i64_in _ (by omega)
  have u2 : IntKind.i64.wrap ((s - 1 : Nat) : Int) = ((s - 1 : Nat) : Int) := IntWalk.i64_in _ (by omega)
  have u3 : IntKind.i64.wrap ((t - 1 : Nat) : Int) = ((t - 1 : Nat) : Int) := IntWalk.i64_in _ (by omega)
  have u4 : IntKind.i64.wrap (s : Int) = (s : Int) := IntWalk.i64_in _ (by omega)
  have u5 : IntKind.i64.wrap (t : Int) = (t : Int) := IntWalk.i64_in _ (by omega)
  have u6 : IntKind.i64.wrap (a : Int) = (a : Int) := IntWalk.i64_in _ (by omega)
  have u7 : IntKind.i64.wrap (b : Int) = (b : Int) := IntWalk.i64_in _ (by omega)
  have u8 : IntKind.i64.wrap (z : Int) = (z : Int) := IntWalk.i64_in _ (by omega)
  have hne : ¬ ((n : Int) = 0) := by omega
  have hnz : ¬ (n = 0) := by omega
  generalize n - 1 = N1 at *
  generalize s - 1 = S1 at *
  generalize t - 1 = T1 at *
  have z0 : (0 : Int) ≤ (z : Int) := by omega
  have a0 : (0 : Int) ≤ (a : Int) := by omega
  have b0 : (0 : Int) ≤ (b : Int) := by omega
  have B0 : Hid (∀ q, Below w.heap.size w (w.drewN q)) := Lib.hid fun q => below_drewN (Below.refl _ _) q
  have K38s : Hid (∀ W, Below w.heap.size w W → Calls Tryd.prog 38 #[.int .i64 (n : Int), .int .i64 (s : Int)] W fun e w' => e = .returned (.tuple #[.slice none 0 0, .int .i64 2]) ∧ Below W.heap.size W w') := Lib.hid fun W _ => (f38_no n s W (fun h => hsg (by simpa using h.2.2.2.2))).mono fun _ _ ⟨h1, q, h2⟩ => ⟨h1, by rw [h2]; exact below_drewN (Below.refl _ _) q⟩
  obtain ⟨Gs, hGs⟩ : ∃ z, z = Nat.gcd n s := ⟨_, rfl⟩
  have K39s : Hid (∀ W, Calls Tryd.prog 39 #[.int .i64 (n : Int), .int .i64 (s : Int)] W fun e w' => e = .returned (.int .i64 (Gs : Int)) ∧ ∃ q, w' = W.drewN q) := Lib.hid fun W => by
    have h := f39_any n s W (by omega) (by omega)
    rw [← hGs] at h
    exact h
  have qs1 : ((Gs : Int) == 1) = false := by
    have : Gs ≠ 1 := fun e => hsg (by rw [Nat.gcd_comm, ← hGs, e])
    simp; omega
  have qs2 : (Gs == 1) = false := by
    have : Gs ≠ 1 := fun e => hsg (by rw [Nat.gcd_comm, ← hGs, e])
    simp; omega
  clear hGs
  have K38t : Hid (∀ W, Below w.heap.size w W → Calls Tryd.prog 38 #[.int .i64 (n : Int), .int .i64 (t : Int)] W fun e w' => ∃ A c, e = .returned (.tuple #[.slice A n c, .int .i64 0]) ∧ Beds w' A n c (cycL n t) ∧ Below W.heap.size W w') := Lib.hid fun W _ => (f38_yes n t W ⟨by omega, by omega, by omega, by omega, by simpa using htg⟩).mono fun _ _ ⟨A, c, h1, h2, h3⟩ => ⟨A, c, h1, h2.beds, h3⟩
  have K39t : Hid (∀ W, Calls Tryd.prog 39 #[.int .i64 (n : Int), .int .i64 (t : Int)] W fun e w' => e = .returned (.int .i64 1) ∧ ∃ q, w' = W.drewN q) := Lib.hid fun W => by
    have h := f39_any n t W (by omega) (by omega)
    rw [Nat.gcd_comm, htg] at h
    exact h
  have K381 : Hid (∀ W, Below w.heap.size w W → Calls Tryd.prog 38 #[.int .i64 (n : Int), .int .i64 1] W fun e w' => ∃ A c, e = .returned (.tuple #[.slice A n c, .int .i64 0]) ∧ Beds w' A n c (cycL n 1) ∧ Below W.heap.size W w') := Lib.hid fun W _ => (f38_yes n 1 W ⟨by omega, by omega, by omega, by omega, by simp⟩).mono fun _ _ ⟨A, c, h1, h2, h3⟩ => ⟨A, c, h1, h2.beds, h3⟩
  have htr := cyc_tr n1 n7
  have hcl : Hid ((cycL n 1).length = n) := Lib.hid (by simp [cycL])
  have hpar : (∃ M : Nat, Hid (trN (cycL n 1) = (M : Int) ∧ trE (cycL n 1) = 0 ∧ (tvL (cycL n 1)).length = n ∧ tvE (cycL n 1) = 0) ∧ (n : Int) % 2 = 1 ∧ (n : Int).tmod 2 = 1 ∧ 0 < M ∧ (M : Int) % (n : Int) = 0 ∧ (M : Int).tmod (n : Int) = 0 ∧ M < 1000000) ∨ (Hid (trN (cycL n 1) = ((0 : Nat) : Int) ∧ trE (cycL n 1) = 0 ∧ (tvL (cycL n 1)).length = 0 ∧ tvE (cycL n 1) = 10) ∧ (n : Int) % 2 = 0 ∧ (n : Int).tmod 2 = 0) := by
    unfold cycTr at htr
    by_cases h : n % 2 = 1
    · rw [if_pos h] at htr
      simp only [Bool.and_eq_true, decide_eq_true_eq] at htr
      obtain ⟨M, hM⟩ := nat_of (trN (cycL n 1)) (by omega)
      rw [hM] at htr
      exact .inl ⟨M, ⟨hM, htr.1, htr.2.2, htr.2.1.2⟩, by omega, by rw [Int.tmod_eq_emod_of_nonneg (by omega)]; omega, by omega, htr.2.1.1.1.2, by rw [Int.tmod_eq_emod_of_nonneg (by omega)]; exact htr.2.1.1.1.2, by omega⟩
    · rw [if_neg h] at htr
      simp only [Bool.and_eq_true, decide_eq_true_eq] at htr
      exact .inr ⟨⟨by rw [htr.2.1.1]; rfl, htr.1, htr.2.2, htr.2.1.2⟩, by omega, by rw [Int.tmod_eq_emod_of_nonneg (by omega)]; omega⟩
  have hn0 : ((0 : Int) == (n : Int)) = false := by simp; omega
  have hn02 : ((n : Int) == 0) = false := by simp; omega
  have hn03 : (0 == n) = false := by simp; omega
  clear hn hs ht2 ht htr hsg htg
  go_enter Tryd.func11, Tryd.ntmps11
  go_wp2
  go_quiet (fail)
  have Bq := Lib.hid (B0.out nq)
  generalize w.drewN nq = wq at *
  go_wp2_with fail
  refine (K38s.out _ Bq.out).mono ?_
  rintro e w1 ⟨rfl, hb⟩
  have B1 := Lib.hid (below_step Bq.out hb)
  clear hb
  go_wp2_with fail
  refine (K38t.out _ B1.out).mono ?_
  rintro e w2 ⟨At, ct, rfl, hN, hb⟩
  have B2 := Lib.hid (below_step B1.out hb)
  have Nt := Lib.hid hN
  clear hN hb
  go_wp2_with fail
  refine (K39s.out _).mono ?_
  rintro e w3 ⟨rfl, q, rfl⟩
  have B3 := Lib.hid (below_drewN B2.out q)
  generalize w2.drewN q = w3 at *
  go_wp2_with fail
  refine (K39t.out _).mono ?_
  rintro e w4 ⟨rfl, q, rfl⟩
  have B4 := Lib.hid (below_drewN B3.out q)
  generalize w3.drewN q = w4 at *
  rcases hpar with ⟨M, htr, p1, p2, p3, p4, p5, p6⟩ | ⟨htr, p1, p2⟩
  all_goals
      go_wp2_with fail
      refine (K381.out _ B4.out).mono ?_
      rintro e w5 ⟨A1, c1, rfl, hN, hb⟩
      have F1 := Lib.hid (below_step B4.out hb)
      have N1 := Lib.hid hN
      clear hN hb
      have K30 := Lib.hid (f30_any A1 n c1 (cycL n 1) w5 N1.out)
      rw [htr.out.1, htr.out.2.1] at K30
      go_wp2_with fail
      refine K30.out.mono ?_
      rintro e w6 ⟨rfl, hb⟩
      have F2 := Lib.hid (below_step F1.out hb)
      have N2 := Lib.hid (N1.out.below hb)
      clear hb K30
      have K27 := Lib.hid (f27_any A1 n c1 (cycL n 1) w6 N2.out)
      rw [htr.out.2.2.1, htr.out.2.2.2] at K27
      go_wp2_with fail
      refine K27.out.mono ?_
      rintro e w7 ⟨A9, c9, rfl, _, hb⟩
      have F3 := Lib.hid (below_step F2.out hb)
      clear hb K27
      go_wp2_with fail
      refine (K17.out _ F3.out).mono ?_
      rintro e w8 ⟨rfl, hb⟩
      have F4 := Lib.hid (below_step F3.out hb)
      clear hb
      go_wp2
      go_ret
      exact ⟨rfl, F4.out⟩
set_option maxRecDepth 100000 in
set_option maxHeartbeats 8000000 in
/-- dibberlaw01.BedCyclic -/
theorem f11_yn (z a b : Nat) (w : World) (hz : z < 256) (ha : a < 256) (hb : b < 256) (ht : Tab w) (hsg : Nat.gcd (1 + a % (1 + z % 7)) (1 + z % 7) = 1) (htg : ¬ Nat.gcd (1 + b % (1 + z % 7)) (1 + z % 7) = 1) :
    Calls Tryd.prog 11 #[.int .u8 (z : Int), .int .u8 (a : Int), .int .u8 (b : Int)] w fun e w' => e = .returned (.bool true) ∧ Below w.heap.size w w' := by
  obtain ⟨n, hn⟩ : ∃ n, n = 1 + z % 7 := ⟨_, rfl⟩
  obtain ⟨s, hs⟩ : ∃ s, s = 1 + a % n := ⟨_, rfl⟩
  obtain ⟨t, ht2⟩ : ∃ t, t = 1 + b % n := ⟨_, rfl⟩
  rw [← hn] at hsg htg
  rw [← hs] at hsg
  rw [← ht2] at htg
  have n1 : 1 ≤ n := by omega
  have n7 : n ≤ 7 := by omega
  have s1 : 1 ≤ s := by omega
  have sn : s ≤ n := by have := Nat.mod_lt a (show 0 < n by omega); omega
  have t1 : 1 ≤ t := by omega
  have tn : t ≤ n := by have := Nat.mod_lt b (show 0 < n by omega); omega
  have K17 : Hid (∀ W, Below w.heap.size w W → Calls Tryd.prog 17 #[] W fun e w' => e = .returned (.bool true) ∧ Below W.heap.size W w') := Lib.hid fun W h => f17_any W (ht.below h)
  have e1 : (z : Int) % 7 = ((n - 1 : Nat) : Int) := by omega
  have e2 : (z : Int).tmod 7 = ((n - 1 : Nat) : Int) := by rw [Int.tmod_eq_emod_of_nonneg (by omega)]; omega
  have e3 : (1 : Int) + ((n - 1 : Nat) : Int) = (n : Int) := by omega
  have ea1 : (a : Int) % (n : Int) = ((s - 1 : Nat) : Int) := by
    have h : a % n = s - 1 := by omega
    rw [← h]; simp
  have ea2 : (a : Int).tmod (n : Int) = ((s - 1 : Nat) : Int) := by rw [Int.tmod_eq_emod_of_nonneg (by omega)]; exact ea1
  have ea3 : (1 : Int) + ((s - 1 : Nat) : Int) = (s : Int) := by omega
  have eb1 : (b : Int) % (n : Int) = ((t - 1 : Nat) : Int) := by
    have h : b % n = t - 1 := by omega
    rw [← h]; simp
  have eb2 : (b : Int).tmod (n : Int) = ((t - 1 : Nat) : Int) := by rw [Int.tmod_eq_emod_of_nonneg (by omega)]; exact eb1
  have eb3 : (1 : Int) + ((t - 1 : Nat) : Int) = (t : Int) := by omega
  have u1 : IntKind.i64.wrap ((n - 1 : Nat) : Int) = ((n - 1 : Nat) : Int) := IntWalk.i64_in _ (by omega)
  have u2 : IntKind.i64.wrap ((s - 1 : Nat) : Int) = ((s - 1 : Nat) : Int) := IntWalk.i64_in _ (by omega)
  have u3 : IntKind.i64.wrap ((t - 1 : Nat) : Int) = ((t - 1 : Nat) : Int) := IntWalk.i64_in _ (by omega)
  have u4 : IntKind.i64.wrap (s : Int) = (s : Int) := IntWalk.i64_in _ (by omega)
  have u5 : IntKind.i64.wrap (t : Int) = (t : Int) := IntWalk.i64_in _ (by omega)
  have u6 : IntKind.i64.wrap (a : Int) = (a : Int) := IntWalk.i64_in _ (by omega)
  have u7 : IntKind.i64.wrap (b : Int) = (b : Int) := IntWalk.i64_in _ (by omega)
  have u8 : IntKind.i64.wrap (z : Int) = (z : Int) := IntWalk.i64_in _ (by omega)
  have hne : ¬ ((n : Int) = 0) := by omega
  have hnz : ¬ (n = 0) := by omega
  generalize n - 1 = N1 at *
  generalize s - 1 = S1 at *
  generalize t - 1 = T1 at *
  have z0 : (0 : Int) ≤ (z : Int) := by omega
  have a0 : (0 : Int) ≤ (a : Int) := by omega
  have b0 : (0 : Int) ≤ (b : Int) := by omega
  have B0 : Hid (∀ q, Below w.heap.size w (w.drewN q)) := Lib.hid fun q => below_drewN (Below.refl _ _) q
  have K38s : Hid (∀ W, Below w.heap.size w W → Calls Tryd.prog 38 #[.int .i64 (n : Int), .int .i64 (s : Int)] W fun e w' => ∃ A c, e = .returned (.tuple #[.slice A n c, .int .i64 0]) ∧ Beds w' A n c (cycL n s) ∧ Below W.heap.size W w') := Lib.hid fun W _ => (f38_yes n s W ⟨by omega, by omega, by omega, by omega, by simpa using hsg⟩).mono fun _ _ ⟨A, c, h1, h2, h3⟩ => ⟨A, c, h1, h2.beds, h3⟩
  have K39s : Hid (∀ W, Calls Tryd.prog 39 #[.int .i64 (n : Int), .int .i64 (s : Int)] W fun e w' => e = .returned (.int .i64 1) ∧ ∃ q, w' = W.drewN q) := Lib.hid fun W => by
    have h := f39_any n s W (by omega) (by omega)
    rw [Nat.gcd_comm, hsg] at h
    exact h
  have K38t : Hid (∀ W, Below w.heap.size w W → Calls Tryd.prog 38 #[.int .i64 (n : Int), .int .i64 (t : Int)] W fun e w' => e = .returned (.tuple #[.slice none 0 0, .int .i64 2]) ∧ Below W.heap.size W w') := Lib.hid fun W _ => (f38_no n t W (fun h => htg (by simpa using h.2.2.2.2))).mono fun _ _ ⟨h1, q, h2⟩ => ⟨h1, by rw [h2]; exact below_drewN (Below.refl _ _) q⟩
  obtain ⟨Gt, hGt⟩ : ∃ z, z = Nat.gcd n t := ⟨_, rfl⟩
  have K39t : Hid (∀ W, Calls Tryd.prog 39 #[.int .i64 (n : Int), .int .i64 (t : Int)] W fun e w' => e = .returned (.int .i64 (Gt : Int)) ∧ ∃ q, w' = W.drewN q) := Lib.hid fun W => by
    have h := f39_any n t W (by omega) (by omega)
    rw [← hGt] at h
    exact h
  have qt1 : ((Gt : Int) == 1) = false := by
    have : Gt ≠ 1 := fun e => htg (by rw [Nat.gcd_comm, ← hGt, e])
    simp; omega
  have qt2 : (Gt == 1) = false := by
    have : Gt ≠ 1 := fun e => htg (by rw [Nat.gcd_comm, ← hGt, e])
    simp; omega
  clear hGt
  have K381 : Hid (∀ W, Below w.heap.size w W → Calls Tryd.prog 38 #[.int .i64 (n : Int), .int .i64 1] W fun e w' => ∃ A c, e = .returned (.tuple #[.slice A n c, .int .i64 0]) ∧ Beds w' A n c (cycL n 1) ∧ Below W.heap.size W w') := Lib.hid fun W _ => (f38_yes n 1 W ⟨by omega, by omega, by omega, by omega, by simp⟩).mono fun _ _ ⟨A, c, h1, h2, h3⟩ => ⟨A, c, h1, h2.beds, h3⟩
  have htr := cyc_tr n1 n7
  have hcl : Hid ((cycL n 1).length = n) := Lib.hid (by simp [cycL])
  have hpar : (∃ M : Nat, Hid (trN (cycL n 1) = (M : Int) ∧ trE (cycL n 1) = 0 ∧ (tvL (cycL n 1)).length = n ∧ tvE (cycL n 1) = 0) ∧ (n : Int) % 2 = 1 ∧ (n : Int).tmod 2 = 1 ∧ 0 < M ∧ (M : Int) % (n : Int) = 0 ∧ (M : Int).tmod (n : Int) = 0 ∧ M < 1000000) ∨ (Hid (trN (cycL n 1) = ((0 : Nat) : Int) ∧ trE (cycL n 1) = 0 ∧ (tvL (cycL n 1)).length = 0 ∧ tvE (cycL n 1) = 10) ∧ (n : Int) % 2 = 0 ∧ (n : Int).tmod 2 = 0) := by
    unfold cycTr at htr
    by_cases h : n % 2 = 1
    · rw [if_pos h] at htr
      simp only [Bool.and_eq_true, decide_eq_true_eq] at htr
      obtain ⟨M, hM⟩ := nat_of (trN (cycL n 1)) (by omega)
      rw [hM] at htr
      exact .inl ⟨M, ⟨hM, htr.1, htr.2.2, htr.2.1.2⟩, by omega, by rw [Int.tmod_eq_emod_of_nonneg (by omega)]; omega, by omega, htr.2.1.1.1.2, by rw [Int.tmod_eq_emod_of_nonneg (by omega)]; exact htr.2.1.1.1.2, by omega⟩
    · rw [if_neg h] at htr
      simp only [Bool.and_eq_true, decide_eq_true_eq] at htr
      exact .inr ⟨⟨by rw [htr.2.1.1]; rfl, htr.1, htr.2.2, htr.2.1.2⟩, by omega, by rw [Int.tmod_eq_emod_of_nonneg (by omega)]; omega⟩
  have hn0 : ((0 : Int) == (n : Int)) = false := by simp; omega
  have hn02 : ((n : Int) == 0) = false := by simp; omega
  have hn03 : (0 == n) = false := by simp; omega
  clear hn hs ht2 ht htr hsg htg
  go_enter Tryd.func11, Tryd.ntmps11
  go_wp2
  go_quiet (fail)
  have Bq := Lib.hid (B0.out nq)
  generalize w.drewN nq = wq at *
  go_wp2_with fail
  refine (K38s.out _ Bq.out).mono ?_
  rintro e w1 ⟨As, cs, rfl, hN, hb⟩
  have B1 := Lib.hid (below_step Bq.out hb)
  have Ns := Lib.hid hN
  clear hN hb
  go_wp2_with fail
  refine (K38t.out _ B1.out).mono ?_
  rintro e w2 ⟨rfl, hb⟩
  have B2 := Lib.hid (below_step B1.out hb)
  clear hb
  go_wp2_with fail
  refine (K39s.out _).mono ?_
  rintro e w3 ⟨rfl, q, rfl⟩
  have B3 := Lib.hid (below_drewN B2.out q)
  generalize w2.drewN q = w3 at *
  go_wp2_with fail
  refine (K39t.out _).mono ?_
  rintro e w4 ⟨rfl, q, rfl⟩
  have B4 := Lib.hid (below_drewN B3.out q)
  generalize w3.drewN q = w4 at *
  rcases hpar with ⟨M, htr, p1, p2, p3, p4, p5, p6⟩ | ⟨htr, p1, p2⟩
  all_goals
      go_wp2_with fail
      refine (K381.out _ B4.out).mono ?_
      rintro e w5 ⟨A1, c1, rfl, hN, hb⟩
      have F1 := Lib.hid (below_step B4.out hb)
      have N1 := Lib.hid hN
      clear hN hb
      have K30 := Lib.hid (f30_any A1 n c1 (cycL n 1) w5 N1.out)
      rw [htr.out.1, htr.out.2.1] at K30
      go_wp2_with fail
      refine K30.out.mono ?_
      rintro e w6 ⟨rfl, hb⟩
      have F2 := Lib.hid (below_step F1.out hb)
      have N2 := Lib.hid (N1.out.below hb)
      clear hb K30
      have K27 := Lib.hid (f27_any A1 n c1 (cycL n 1) w6 N2.out)
      rw [htr.out.2.2.1, htr.out.2.2.2] at K27
      go_wp2_with fail
      refine K27.out.mono ?_
      rintro e w7 ⟨A9, c9, rfl, _, hb⟩
      have F3 := Lib.hid (below_step F2.out hb)
      clear hb K27
      go_wp2_with fail
      refine (K17.out _ F3.out).mono ?_
      rintro e w8 ⟨rfl, hb⟩
      have F4 := Lib.hid (below_step F3.out hb)
      clear hb
      go_wp2
      go_ret
      exact ⟨rfl, F4.out⟩
set_option maxRecDepth 100000 in
set_option maxHeartbeats 8000000 in
/-- dibberlaw01.BedCyclic -/
theorem f11_nn (z a b : Nat) (w : World) (hz : z < 256) (ha : a < 256) (hb : b < 256) (ht : Tab w) (hsg : ¬ Nat.gcd (1 + a % (1 + z % 7)) (1 + z % 7) = 1) (htg : ¬ Nat.gcd (1 + b % (1 + z % 7)) (1 + z % 7) = 1) :
    Calls Tryd.prog 11 #[.int .u8 (z : Int), .int .u8 (a : Int), .int .u8 (b : Int)] w fun e w' => e = .returned (.bool true) ∧ Below w.heap.size w w' := by
  obtain ⟨n, hn⟩ : ∃ n, n = 1 + z % 7 := ⟨_, rfl⟩
  obtain ⟨s, hs⟩ : ∃ s, s = 1 + a % n := ⟨_, rfl⟩
  obtain ⟨t, ht2⟩ : ∃ t, t = 1 + b % n := ⟨_, rfl⟩
  rw [← hn] at hsg htg
  rw [← hs] at hsg
  rw [← ht2] at htg
  have n1 : 1 ≤ n := by omega
  have n7 : n ≤ 7 := by omega
  have s1 : 1 ≤ s := by omega
  have sn : s ≤ n := by have := Nat.mod_lt a (show 0 < n by omega); omega
  have t1 : 1 ≤ t := by omega
  have tn : t ≤ n := by have := Nat.mod_lt b (show 0 < n by omega); omega
  have K17 : Hid (∀ W, Below w.heap.size w W → Calls Tryd.prog 17 #[] W fun e w' => e = .returned (.bool true) ∧ Below W.heap.size W w') := Lib.hid fun W h => f17_any W (ht.below h)
  have e1 : (z : Int) % 7 = ((n - 1 : Nat) : Int) := by omega
  have e2 : (z : Int).tmod 7 = ((n - 1 : Nat) : Int) := by rw [Int.tmod_eq_emod_of_nonneg (by omega)]; omega
  have e3 : (1 : Int) + ((n - 1 : Nat) : Int) = (n : Int) := by omega
  have ea1 : (a : Int) % (n : Int) = ((s - 1 : Nat) : Int) := by
    have h : a % n = s - 1 := by omega
    rw [← h]; simp
  have ea2 : (a : Int).tmod (n : Int) = ((s - 1 : Nat) : Int) := by rw [Int.tmod_eq_emod_of_nonneg (by omega)]; exact ea1
  have ea3 : (1 : Int) + ((s - 1 : Nat) : Int) = (s : Int) := by omega
  have eb1 : (b : Int) % (n : Int) = ((t - 1 : Nat) : Int) := by
    have h : b % n = t - 1 := by omega
    rw [← h]; simp
  have eb2 : (b : Int).tmod (n : Int) = ((t - 1 : Nat) : Int) := by rw [Int.tmod_eq_emod_of_nonneg (by omega)]; exact eb1
  have eb3 : (1 : Int) + ((t - 1 : Nat) : Int) = (t : Int) := by omega
  have u1 : IntKind.i64.wrap ((n - 1 : Nat) : Int) = ((n - 1 : Nat) : Int) := IntWalk.i64_in _ (by omega)
  have u2 : IntKind.i64.wrap ((s - 1 : Nat) : Int) = ((s - 1 : Nat) : Int) := IntWalk.i64_in _ (by omega)
  have u3 : IntKind.i64.wrap ((t - 1 : Nat) : Int) = ((t - 1 : Nat) : Int) := IntWalk.i64_in _ (by omega)
  have u4 : IntKind.i64.wrap (s : Int) = (s : Int) := IntWalk.i64_in _ (by omega)
  have u5 : IntKind.i64.wrap (t : Int) = (t : Int) := IntWalk.i64_in _ (by omega)
  have u6 : IntKind.i64.wrap (a : Int) = (a : Int) := IntWalk.i64_in _ (by omega)
  have u7 : IntKind.i64.wrap (b : Int) = (b : Int) := IntWalk.i64_in _ (by omega)
  have u8 : IntKind.i64.wrap (z : Int) = (z : Int) := IntWalk.i64_in _ (by omega)
  have hne : ¬ ((n : Int) = 0) := by omega
  have hnz : ¬ (n = 0) := by omega
  generalize n - 1 = N1 at *
  generalize s - 1 = S1 at *
  generalize t - 1 = T1 at *
  have z0 : (0 : Int) ≤ (z : Int) := by omega
  have a0 : (0 : Int) ≤ (a : Int) := by omega
  have b0 : (0 : Int) ≤ (b : Int) := by omega
  have B0 : Hid (∀ q, Below w.heap.size w (w.drewN q)) := Lib.hid fun q => below_drewN (Below.refl _ _) q
  have K38s : Hid (∀ W, Below w.heap.size w W → Calls Tryd.prog 38 #[.int .i64 (n : Int), .int .i64 (s : Int)] W fun e w' => e = .returned (.tuple #[.slice none 0 0, .int .i64 2]) ∧ Below W.heap.size W w') := Lib.hid fun W _ => (f38_no n s W (fun h => hsg (by simpa using h.2.2.2.2))).mono fun _ _ ⟨h1, q, h2⟩ => ⟨h1, by rw [h2]; exact below_drewN (Below.refl _ _) q⟩
  obtain ⟨Gs, hGs⟩ : ∃ z, z = Nat.gcd n s := ⟨_, rfl⟩
  have K39s : Hid (∀ W, Calls Tryd.prog 39 #[.int .i64 (n : Int), .int .i64 (s : Int)] W fun e w' => e = .returned (.int .i64 (Gs : Int)) ∧ ∃ q, w' = W.drewN q) := Lib.hid fun W => by
    have h := f39_any n s W (by omega) (by omega)
    rw [← hGs] at h
    exact h
  have qs1 : ((Gs : Int) == 1) = false := by
    have : Gs ≠ 1 := fun e => hsg (by rw [Nat.gcd_comm, ← hGs, e])
    simp; omega
  have qs2 : (Gs == 1) = false := by
    have : Gs ≠ 1 := fun e => hsg (by rw [Nat.gcd_comm, ← hGs, e])
    simp; omega
  clear hGs
  have K38t : Hid (∀ W, Below w.heap.size w W → Calls Tryd.prog 38 #[.int .i64 (n : Int), .int .i64 (t : Int)] W fun e w' => e = .returned (.tuple #[.slice none 0 0, .int .i64 2]) ∧ Below W.heap.size W w') := Lib.hid fun W _ => (f38_no n t W (fun h => htg (by simpa using h.2.2.2.2))).mono fun _ _ ⟨h1, q, h2⟩ => ⟨h1, by rw [h2]; exact below_drewN (Below.refl _ _) q⟩
  obtain ⟨Gt, hGt⟩ : ∃ z, z = Nat.gcd n t := ⟨_, rfl⟩
  have K39t : Hid (∀ W, Calls Tryd.prog 39 #[.int .i64 (n : Int), .int .i64 (t : Int)] W fun e w' => e = .returned (.int .i64 (Gt : Int)) ∧ ∃ q, w' = W.drewN q) := Lib.hid fun W => by
    have h := f39_any n t W (by omega) (by omega)
    rw [← hGt] at h
    exact h
  have qt1 : ((Gt : Int) == 1) = false := by
    have : Gt ≠ 1 := fun e => htg (by rw [Nat.gcd_comm, ← hGt, e])
    simp; omega
  have qt2 : (Gt == 1) = false := by
    have : Gt ≠ 1 := fun e => htg (by rw [Nat.gcd_comm, ← hGt, e])
    simp; omega
  clear hGt
  have K381 : Hid (∀ W, Below w.heap.size w W → Calls Tryd.prog 38 #[.int .i64 (n : Int), .int .i64 1] W fun e w' => ∃ A c, e = .returned (.tuple #[.slice A n c, .int .i64 0]) ∧ Beds w' A n c (cycL n 1) ∧ Below W.heap.size W w') := Lib.hid fun W _ => (f38_yes n 1 W ⟨by omega, by omega, by omega, by omega, by simp⟩).mono fun _ _ ⟨A, c, h1, h2, h3⟩ => ⟨A, c, h1, h2.beds, h3⟩
  have htr := cyc_tr n1 n7
  have hcl : Hid ((cycL n 1).length = n) := Lib.hid (by simp [cycL])
  have hpar : (∃ M : Nat, Hid (trN (cycL n 1) = (M : Int) ∧ trE (cycL n 1) = 0 ∧ (tvL (cycL n 1)).length = n ∧ tvE (cycL n 1) = 0) ∧ (n : Int) % 2 = 1 ∧ (n : Int).tmod 2 = 1 ∧ 0 < M ∧ (M : Int) % (n : Int) = 0 ∧ (M : Int).tmod (n : Int) = 0 ∧ M < 1000000) ∨ (Hid (trN (cycL n 1) = ((0 : Nat) : Int) ∧ trE (cycL n 1) = 0 ∧ (tvL (cycL n 1)).length = 0 ∧ tvE (cycL n 1) = 10) ∧ (n : Int) % 2 = 0 ∧ (n : Int).tmod 2 = 0) := by
    unfold cycTr at htr
    by_cases h : n % 2 = 1
    · rw [if_pos h] at htr
      simp only [Bool.and_eq_true, decide_eq_true_eq] at htr
      obtain ⟨M, hM⟩ := nat_of (trN (cycL n 1)) (by omega)
      rw [hM] at htr
      exact .inl ⟨M, ⟨hM, htr.1, htr.2.2, htr.2.1.2⟩, by omega, by rw [Int.tmod_eq_emod_of_nonneg (by omega)]; omega, by omega, htr.2.1.1.1.2, by rw [Int.tmod_eq_emod_of_nonneg (by omega)]; exact htr.2.1.1.1.2, by omega⟩
    · rw [if_neg h] at htr
      simp only [Bool.and_eq_true, decide_eq_true_eq] at htr
      exact .inr ⟨⟨by rw [htr.2.1.1]; rfl, htr.1, htr.2.2, htr.2.1.2⟩, by omega, by rw [Int.tmod_eq_emod_of_nonneg (by omega)]; omega⟩
  have hn0 : ((0 : Int) == (n : Int)) = false := by simp; omega
  have hn02 : ((n : Int) == 0) = false := by simp; omega
  have hn03 : (0 == n) = false := by simp; omega
  clear hn hs ht2 ht htr hsg htg
  go_enter Tryd.func11, Tryd.ntmps11
  go_wp2
  go_quiet (fail)
  have Bq := Lib.hid (B0.out nq)
  generalize w.drewN nq = wq at *
  go_wp2_with fail
  refine (K38s.out _ Bq.out).mono ?_
  rintro e w1 ⟨rfl, hb⟩
  have B1 := Lib.hid (below_step Bq.out hb)
  clear hb
  go_wp2_with fail
  refine (K38t.out _ B1.out).mono ?_
  rintro e w2 ⟨rfl, hb⟩
  have B2 := Lib.hid (below_step B1.out hb)
  clear hb
  go_wp2_with fail
  refine (K39s.out _).mono ?_
  rintro e w3 ⟨rfl, q, rfl⟩
  have B3 := Lib.hid (below_drewN B2.out q)
  generalize w2.drewN q = w3 at *
  go_wp2_with fail
  refine (K39t.out _).mono ?_
  rintro e w4 ⟨rfl, q, rfl⟩
  have B4 := Lib.hid (below_drewN B3.out q)
  generalize w3.drewN q = w4 at *
  rcases hpar with ⟨M, htr, p1, p2, p3, p4, p5, p6⟩ | ⟨htr, p1, p2⟩
  all_goals
      go_wp2_with fail
      refine (K381.out _ B4.out).mono ?_
      rintro e w5 ⟨A1, c1, rfl, hN, hb⟩
      have F1 := Lib.hid (below_step B4.out hb)
      have N1 := Lib.hid hN
      clear hN hb
      have K30 := Lib.hid (f30_any A1 n c1 (cycL n 1) w5 N1.out)
      rw [htr.out.1, htr.out.2.1] at K30
      go_wp2_with fail
      refine K30.out.mono ?_
      rintro e w6 ⟨rfl, hb⟩
      have F2 := Lib.hid (below_step F1.out hb)
      have N2 := Lib.hid (N1.out.below hb)
      clear hb K30
      have K27 := Lib.hid (f27_any A1 n c1 (cycL n 1) w6 N2.out)
      rw [htr.out.2.2.1, htr.out.2.2.2] at K27
      go_wp2_with fail
      refine K27.out.mono ?_
      rintro e w7 ⟨A9, c9, rfl, _, hb⟩
      have F3 := Lib.hid (below_step F2.out hb)
      clear hb K27
      go_wp2_with fail
      refine (K17.out _ F3.out).mono ?_
      rintro e w8 ⟨rfl, hb⟩
      have F4 := Lib.hid (below_step F3.out hb)
      clear hb
      go_wp2
      go_ret
      exact ⟨rfl, F4.out⟩
end Go.Proofs.YtiodednhadnekaaDoor
