/- Walks: Can (both), sum, the specification's guess. -/
import Derived.Test.YtfaenbaaadjbbaaW8
import Derived.Test.YtfaenbaaadjbbaaPlain6
namespace Go.Proofs.Ytfaenbaaadjbbaa
open Go.RowKit

def canR (k : Int) (goal : List Int) : Int := if goalOk k goal = true ∧ canB k.toNat goal = true then 1 else 0
def canE (k : Int) (goal : List Int) : Int := if goalOk k goal = true then 0 else 2
/-- A number and an error came back. -/
def IntErr (w : World) (x err : Int) (e : Ending) (w' : World) : Prop := e = .returned (.tuple #[.int .i64 x, .int .i64 err]) ∧ Below w.heap.size w w'
theorem goal600 {m : Nat} {goal : List Int} (h2 : m ≤ 10) (h : ∀ i, 0 ≤ goal.getD i 0 ∧ goal.getD i 0 ≤ m * 60) : ∀ i, 0 ≤ goal.getD i 0 ∧ goal.getD i 0 ≤ 600 := fun i => by have := h i; omega
set_option maxHeartbeats 1000000 in
/-- luck.Can -/
theorem f22_any (A : Option Addr) (k : Int) (n c : Nat) (goal : List Int) (w : World) (hs : Ints w A n goal) :
    Calls Try.prog 22 #[.int .i64 k, .slice A n c] w (IntErr w (canR k goal) (canE k goal)) := by
  have k55 := Lib.hid (f55_any k A n c goal w hs)
  cases hok : goalOk k goal
  · have h1 : canR k goal = 0 := by unfold canR; simp [hok]
    have h2 : canE k goal = 2 := by unfold canE; simp [hok]
    rw [h1, h2]
    rw [hok] at k55
    clear hok h1 h2
    go_enter Try.func22, Try.ntmps22
    go_wp2_with fail
    refine k55.out.mono ?_
    rintro e w1 ⟨rfl, hb⟩
    have HB := Lib.hid hb
    clear hb
    go_wp2
    go_ret2
    exact ⟨rfl, HB.out⟩
  · obtain ⟨m, rfl, g1, g2, g3, g4⟩ := goalOk_facts hok
    have h2 : canE m goal = 0 := by unfold canE; simp [hok]
    rw [h2]
    rw [hok] at k55
    have HS := Lib.hid hs
    have k56 : Hid (∀ w1, Ints w1 A n goal → Calls Try.prog 56 #[.slice A n c] w1 fun e w' => e = .returned (.int .i64 (lev 122880 (sc 2048 goal) m 0)) ∧ Below w1.heap.size w1 w') := fun w1 h => f56_any A m n c goal w1 h g2 (by rw [← hs.len]; exact g3) (goal600 g2 g4)
    have hsg : decide (lev 122880 (sc 2048 goal) m 0 < 0) = !canB m goal := lev_sign m goal g2
    have h1 : canR m goal = if canB m goal = true then 1 else 0 := by unfold canR; simp [hok]
    rw [h1]
    generalize lev 122880 (sc 2048 goal) m 0 = x at *
    clear hok h1 h2 hs
    cases hc : canB m goal
    · have hx : x < 0 := by rw [hc] at hsg; simpa using hsg
      clear hsg hc
      go_enter Try.func22, Try.ntmps22
      go_wp2_with fail
      refine k55.out.mono ?_
      rintro e w1 ⟨rfl, hb⟩
      have HB := Lib.hid hb
      have HI := Lib.hid (HS.out.below hb)
      clear hb
      go_wp2_with fail
      refine (k56.out _ HI.out).mono ?_
      rintro e w2 ⟨rfl, hb⟩
      have HB2 := Lib.hid (below_step HB.out hb)
      clear hb
      go_wp2
      go_ret2
      exact ⟨rfl, HB2.out⟩
    · have hx : 0 ≤ x := by rw [hc] at hsg; simpa using hsg
      clear hsg hc
      go_enter Try.func22, Try.ntmps22
      go_wp2_with fail
      refine k55.out.mono ?_
      rintro e w1 ⟨rfl, hb⟩
      have HB := Lib.hid hb
      have HI := Lib.hid (HS.out.below hb)
      clear hb
      go_wp2_with fail
      refine (k56.out _ HI.out).mono ?_
      rintro e w2 ⟨rfl, hb⟩
      have HB2 := Lib.hid (below_step HB.out hb)
      clear hb
      go_wp2
      go_ret2
      exact ⟨rfl, HB2.out⟩
set_option maxHeartbeats 1000000 in
/-- dibberref05.Can -/
theorem f24_any (A : Option Addr) (k : Int) (n c : Nat) (goal : List Int) (w : World) (hs : Ints w A n goal) :
    Calls Try.prog 24 #[.int .i64 k, .slice A n c] w (IntErr w (canR k goal) (canE k goal)) := by
  have k29 := Lib.hid (f29_any k A n c goal w hs)
  cases hok : goalOk k goal
  · have h1 : canR k goal = 0 := by unfold canR; simp [hok]
    have h2 : canE k goal = 2 := by unfold canE; simp [hok]
    rw [h1, h2]
    rw [hok] at k29
    clear hok h1 h2
    go_enter Try.func24, Try.ntmps24
    go_wp2_with fail
    refine k29.out.mono ?_
    rintro e w1 ⟨rfl, rfl⟩
    go_wp2
    go_ret2
    exact ⟨rfl, Below.refl _ _⟩
  · obtain ⟨m, rfl, g1, g2, g3, g4⟩ := goalOk_facts hok
    have h2 : canE m goal = 0 := by unfold canE; simp [hok]
    rw [h2]
    rw [hok] at k29
    have k58 := Lib.hid (f58_any A m n c goal w hs g2 (by rw [← hs.len]; exact g3) (goal600 g2 g4))
    have h1 : canR m goal = if canB m goal = true then 1 else 0 := by unfold canR; simp [hok]
    rw [h1]
    clear hok h1 h2
    cases hc : canB m goal
    all_goals
      rw [hc] at k58
      clear hc
      go_enter Try.func24, Try.ntmps24
      go_wp2_with fail
      refine k29.out.mono ?_
      rintro e w1 ⟨rfl, rfl⟩
      go_wp2_with fail
      refine k58.out.mono ?_
      rintro e w2 ⟨rfl, hb⟩
      have HB2 := Lib.hid hb
      clear hb
      go_wp2
      go_ret2
      exact ⟨rfl, HB2.out⟩

set_option maxRecDepth 100000 in
set_option maxHeartbeats 2000000 in
/-- luck.sum -/
theorem f80_any (A B : Option Addr) (k n c m d : Nat) (goal nights : List Int) (w : World) (hs : Ints w A n goal) (hcap : n ≤ c) (hn : Ints w B m nights) (hk : k ≤ 10) (hm : m ≤ k) (hl : n = 2 ^ k) (hb : nights.all bitB = true)
    (hg : ∀ i, 0 ≤ goal.getD i 0 ∧ goal.getD i 0 ≤ 600) :
    Calls Try.prog 80 #[.int .i64 (k : Int), .slice A n c, .slice B m d] w fun e w' => e = .returned (.int .i64 (blk goal (k - m) (bnum nights))) ∧ w = w' := by
  have HN := Lib.hid hn
  have HL := Lib.hid hn.len
  have HBT : Hid (∀ j, nights.getD j 0 = 0 ∨ nights.getD j 0 = 1) := bit_get hb
  have HLT : Hid (∀ j, j ≤ m → bnumTo nights j < 1024) := fun j hj => Nat.lt_of_lt_of_le (bnumTo_lt hb j (by rw [hn.len]; exact hj)) (pow10 _ (by omega))
  have hlast : Hid (bnumTo nights m = bnum nights) := by rw [← hn.len]; exact bnumTo_all nights
  have hbl : bnum nights < 2 ^ m := by rw [← hn.len]; exact bnum_lt hb
  obtain ⟨N, hN, hshl⟩ := shl_one (k - m) (by omega)
  have hN1 : 1 ≤ N := by rw [hN]; exact Nat.pow_pos (by omega)
  have hN2 : N ≤ 1024 := by rw [hN]; exact pow10 _ (by omega)
  have hsp : 2 ^ m * N = n := by rw [hN, hl]; exact pow_split hm
  have hn1024 : n ≤ 1024 := by rw [hl]; exact pow10 k hk
  have hHS := Lib.hid hs
  have hdone : Hid (blk goal (k - m) (bnum nights) = blkTo goal N (bnum nights) N) := by rw [hN]; rfl
  have HG := Lib.hid (blkTo_in hg N (bnum nights))
  have HG1 := Lib.hid hg
  have hkm : (0 : Int) ≤ (k : Int) - (m : Int) := by omega
  have hcap' : n ≤ 17592186044415 := by omega
  clear hn hs hb hN hl hg
  rw [hdone.out]
  have HD : Hid (∀ j, j ≤ m → bnumTo nights j < 1024) := HLT
  go_enter Try.func80, Try.ntmps80
  go_wp2
  go_loop [7, 9, 16] (fun f _ i => ∃ j : Nat, j ≤ m ∧ i = .int .i64 (j : Int) ∧ f = .int .i64 (bnumTo nights j : Int)) (fun _ _ i => m - (intOf i).toNat)
  case atStart => exact ⟨0, by omega, rfl, rfl⟩
  case round =>
    obtain ⟨j, hj, rfl, rfl⟩ := hrel
    have hjb := HD.out j hj
    by_cases hlt : j < m
    · obtain ⟨b, off, rfl, hc⟩ := HN.out.at_ hlt
      have hst := Lib.hid (bnumTo_succ (l := nights) (j := j) (by rw [HL.out]; exact hlt))
      have hx := HBT.out j
      have hx0 : 0 ≤ nights.getD j 0 := by omega
      have hx1 : nights.getD j 0 ≤ 1 := by omega
      generalize nights.getD j 0 = x at *
      generalize bnumTo nights j = v at *
      clear hx
      go_wp2
      go_round
      case rel => exact ⟨j + 1, by omega, by go_num, by rw [hst.out]; go_num⟩
      case measure => simp [intOf]; omega
    · obtain rfl : j = m := by omega
      rw [hlast.out]
      generalize hbd : bnum nights = b at *
      have HBD := Lib.hid hbd
      clear hbd
      have hb1024 : b ≤ 1024 := by have := pow10 j (by omega); omega
      have i1 : b * N + N ≤ n := by
        rw [← hsp]
        have : (b + 1) * N ≤ 2 ^ j * N := Nat.mul_le_mul_right _ hbl
        rw [Nat.add_mul, Nat.one_mul] at this
        exact this
      have hbN : ((b : Int) * (N : Int)) = ((b * N : Nat) : Int) := by simp
      have hbN1 : (((b : Int) + 1) * (N : Int)) = ((b * N + N : Nat) : Int) := by rw [Int.add_mul, hbN]; simp
      obtain ⟨L, hL⟩ : ∃ L, L = b * N := ⟨_, rfl⟩
      rw [← hL] at i1 hbN hbN1
      have HLd := Lib.hid hL
      obtain ⟨bA, oA, rfl, hcA⟩ := hHS.out.ad (by omega)
      have HC := Lib.hid hcA
      have hne : ¬ (c = L) := by omega
      clear hL hlt hbl hsp hcA
      go_wp2
      go_loop [11, 13, 40] (fun t _ i => ∃ q : Nat, q ≤ N ∧ i = .int .i64 (q : Int) ∧ t = .int .i64 (blkTo goal N b q)) (fun _ _ i => N - (intOf i).toNat)
      case atStart => exact ⟨0, by omega, rfl, rfl⟩
      case round =>
        obtain ⟨q, hq, rfl, rfl⟩ := hrel
        have hv := HG.out q
        by_cases hlt : q < N
        · have hc := HC.out (L + q) (by omega)
          rw [← Nat.add_assoc] at hc
          have hst : Hid (blkTo goal N b (q + 1) = blkTo goal N b q + goal.getD (L + q) 0) := by rw [HLd.out]; rfl
          have hx := HG1.out (L + q)
          generalize goal.getD (L + q) 0 = x at *
          generalize blkTo goal N b q = v at *
          go_wp2
          go_round
          case rel => exact ⟨q + 1, by omega, by go_num, by rw [hst.out]⟩
          case measure => simp [intOf]; omega
        · obtain rfl : q = N := by omega
          go_wp2
          go_ret
          exact ⟨ret_int (by rw [HBD.out]), rfl⟩

theorem ret_pair {a b c d : Int} (h1 : a = c) (h2 : b = d) : Ending.returned (.tuple #[.int .i64 a, .int .i64 b]) = .returned (.tuple #[.int .i64 c, .int .i64 d]) := by rw [h1, h2]
set_option maxRecDepth 100000 in
set_option maxHeartbeats 2000000 in
/-- dibberref05.guess -/
theorem f59_any (A : Option Addr) (k n c m b : Nat) (goal : List Int) (w : World) (hs : Ints w A n goal) (hk : k ≤ 10) (hm : m < k) (hl : n = 2 ^ k) (hb : b < 2 ^ m)
    (hg : ∀ i, 0 ≤ goal.getD i 0 ∧ goal.getD i 0 ≤ 600) :
    Calls Try.prog 59 #[.int .i64 (k : Int), .slice A n c, .int .i64 (m : Int), .int .i64 (b : Int)] w fun e w' => e = .returned (.tuple #[.int .i64 (gv k goal m b : Int), .int .i64 ((2 * denG k m : Nat) : Int)]) ∧ w = w' := by
  have hkm : k - m - 1 ≤ 9 := by omega
  obtain ⟨N, hN, hshl⟩ := shl_one (k - m - 1) (by omega)
  have hN1 : 1 ≤ N := by rw [hN]; exact Nat.pow_pos (by omega)
  have hN2 : N ≤ 512 := by rw [hN]; exact Nat.le_trans (Nat.pow_le_pow_right (by omega) hkm) (by decide)
  have hsp : 2 ^ m * (2 * N) = n := by
    rw [hN, hl, ← pow_split (show m ≤ k by omega), half_pow hm]
    rfl
  have hn1024 : n ≤ 1024 := by rw [hl]; exact pow10 k hk
  have hb1024 : b ≤ 1024 := by have := pow10 m (by omega); omega
  have hd : Hid (denG k m = 60 * N) := by unfold denG; rw [hN]; rfl
  have h1 : Hid (blk goal (k - m - 1) (2 * b) = blkTo goal N (2 * b) N) := by rw [hN]; rfl
  have h2 : Hid (blk goal (k - m - 1) (2 * b + 1) = blkTo goal N (2 * b + 1) N) := by rw [hN]; rfl
  have hgv : Hid ((gv k goal m b : Int) = max 0 (min (2 * (60 * (N : Int))) (60 * (N : Int) + blkTo goal N (2 * b) N - blkTo goal N (2 * b + 1) N))) := by
    unfold gv
    rw [hd.out, h1.out, h2.out]
    generalize blkTo goal N (2 * b) N = x
    generalize blkTo goal N (2 * b + 1) N = y
    unfold Hid; omega
  have hden : Hid (((2 * denG k m : Nat) : Int) = 120 * (N : Int)) := by rw [hd.out]; unfold Hid; omega
  rw [hgv.out, hden.out]
  have i1 : 2 * b * N + N + N ≤ n := by
    rw [← hsp]
    have : (b + 1) * (2 * N) ≤ 2 ^ m * (2 * N) := Nat.mul_le_mul_right _ hb
    have e : (b + 1) * (2 * N) = 2 * b * N + N + N := by rw [Nat.add_mul, Nat.one_mul, Nat.mul_comm 2 b, Nat.mul_assoc]; omega
    omega
  obtain ⟨L, hL⟩ : ∃ L, L = 2 * b * N := ⟨_, rfl⟩
  have e1 : (b : Int) * 2 * (N : Int) = (L : Int) := by rw [hL, Int.mul_comm (b : Int) 2]; simp
  have HA : Hid (∀ q, blkTo goal N (2 * b) (q + 1) = blkTo goal N (2 * b) q + goal.getD (L + q) 0) := fun q => by rw [hL]; rfl
  have HB : Hid (∀ q, blkTo goal N (2 * b + 1) (q + 1) = blkTo goal N (2 * b + 1) q + goal.getD (L + N + q) 0) := fun q => by
    rw [hL]; show _ = blkTo goal N (2 * b + 1) q + goal.getD (2 * b * N + N + q) 0
    have e : 2 * b * N + N = (2 * b + 1) * N := by rw [Nat.add_mul, Nat.one_mul]
    rw [e]; rfl
  rw [← hL] at i1
  have HG := Lib.hid (blkTo_in hg N (2 * b))
  have HG2 := Lib.hid (blkTo_in hg N (2 * b + 1))
  have HG1 := Lib.hid hg
  obtain ⟨bA, oA, rfl, hcA⟩ := hs.ad (by omega)
  have HC := Lib.hid hcA
  have HZ1 : Hid (blkTo goal N (2 * b) 0 = 0) := rfl
  have HZ2 : Hid (blkTo goal N (2 * b + 1) 0 = 0) := rfl
  obtain ⟨F, hF⟩ : ∃ F, F = blkTo goal N (2 * b) := ⟨_, rfl⟩
  obtain ⟨G, hGd⟩ : ∃ G, G = blkTo goal N (2 * b + 1) := ⟨_, rfl⟩
  rw [← hF] at HA HG HZ1 ⊢
  rw [← hGd] at HB HG2 HZ2 ⊢
  clear hs hg hF hGd hN hl hb hL hsp h1 h2 hgv hden hcA
  go_enter Try.func59, Try.ntmps59
  go_wp2
  go_loop [11, 12, 13] (fun x y i => ∃ q : Nat, q ≤ N ∧ i = .int .i64 (q : Int) ∧ x = .int .i64 (F q) ∧ y = .int .i64 (G q)) (fun _ _ i => N - (intOf i).toNat)
  case atStart => exact ⟨0, by omega, rfl, by rw [HZ1.out], by rw [HZ2.out]⟩
  case round =>
    obtain ⟨q, hq, rfl, rfl, rfl⟩ := hrel
    have hv1 := HG.out q
    have hv2 := HG2.out q
    by_cases hlt : q < N
    · have hc1 := HC.out (L + q) (by omega)
      have hc2 := HC.out (L + N + q) (by omega)
      have s1 := Lib.hid (HA.out q)
      have s2 := Lib.hid (HB.out q)
      have hx1 := HG1.out (L + q)
      have hx2 := HG1.out (L + N + q)
      generalize goal.getD (L + q) 0 = x1 at *
      generalize goal.getD (L + N + q) 0 = x2 at *
      generalize F q = v1 at *
      generalize G q = v2 at *
      go_wp2
      go_round
      case rel => exact ⟨q + 1, by omega, by go_num, by rw [s1.out], by rw [s2.out]⟩
      case measure => simp [intOf]; omega
    · obtain rfl : q = N := by omega
      generalize hf1 : F q = v1 at *
      generalize hf2 : G q = v2 at *
      have HF1 := Lib.hid hf1
      have HF2 := Lib.hid hf2
      clear hf1 hf2
      go_wp2
      all_goals go_ret2
      all_goals exact ⟨ret_pair (by rw [HF1.out, HF2.out]; omega) rfl, rfl⟩
end Go.Proofs.Ytfaenbaaadjbbaa
