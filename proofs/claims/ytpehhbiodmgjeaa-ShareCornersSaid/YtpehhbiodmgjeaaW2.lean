/- Walks: Cost. -/
import Derived.Test.YtpehhbiodmgjeaaW1
namespace Go.Proofs.Ytpehhbiodmgjeaa
open Go.RowKit

set_option maxHeartbeats 1000000 in
theorem f54_good (A : Option Addr) (n : Nat) (len c : Nat) (xs : List Int) (w : World) (hs : Ints w A len xs) (ha : 1 ≤ n) (hb : n ≤ 6) :
    Calls Try.prog 54 #[.int .i64 (n : Int), .slice A len c] w fun e w' => e = .returned (.bool (costOk n xs)) ∧ w = w' := by
  obtain ⟨N, hN, hshl⟩ := shl_one n (by omega)
  have hN1 : 1 ≤ N := by rw [hN]; exact Nat.pow_pos (by omega)
  have hN2 : N ≤ 64 := by rw [hN]; exact pow6 n hb
  have HN := Lib.hid hN
  clear hN
  have hle := Lib.hid hs.len
  by_cases hl : len = N
  · obtain ⟨b, off, rfl, hc⟩ := hs.ad (by omega)
    have HC := Lib.hid hc
    have hc0 := hc 0 (by omega)
    simp only [Nat.add_zero] at hc0
    clear hc
    subst hl
    by_cases hz : xs.getD 0 0 = 0
    · have hq : ((xs[0]?.getD 0) != 0) = false := by simpa using hz
      have HZ := Lib.hid hz
      clear hz
      have heq : costOk n xs = !xs.any outC := by
        unfold costOk; rw [hle.out, HZ.out, Int.toNat_natCast, ← HN.out]; simp; omega
      rw [heq]
      clear heq
      go_enter Try.func54, Try.ntmps54
      go_wp2
      go_loop [5] (fun i => ∃ k : Nat, k ≤ len ∧ i = .int .i64 k ∧ (∀ j, j < k → outC (xs.getD j 0) = false)) (fun i => len - (intOf i).toNat)
      case atStart => exact ⟨0, by omega, rfl, fun j hj => absurd hj (by omega)⟩
      case round =>
        obtain ⟨k, hk, rfl, hbef⟩ := hrel
        have HB := Lib.hid hbef
        clear hbef
        by_cases hlt : k < len
        · have hck := HC.out k hlt
          by_cases ho : xs[k]?.getD 0 < -1000000 ∨ 1000000 < xs[k]?.getD 0
          · have hfin : (!xs.any outC) = false := by
              simp only [Bool.not_eq_false', List.any_eq_true]
              refine ⟨xs[k]'(by rw [hle.out]; exact hlt), List.getElem_mem _, ?_⟩
              have hkl : k < xs.length := by rw [hle.out]; exact hlt
              simp only [List.getElem?_eq_getElem hkl, Option.getD_some] at ho
              simp only [outC, Bool.or_eq_true, decide_eq_true_eq]
              exact ho
            have HF := Lib.hid hfin
            clear hfin
            rcases ho with ho | ho
            · go_wp2
              go_ret
              exact ⟨ret_bool HF.out.symm, rfl⟩
            · go_wp2
              go_ret
              exact ⟨ret_bool HF.out.symm, rfl⟩
          · have ho1 : -1000000 ≤ xs[k]?.getD 0 := by omega
            have ho2 : xs[k]?.getD 0 ≤ 1000000 := by omega
            clear ho
            go_wp2
            go_round
            case rel => exact ⟨k + 1, by omega, by go_num, fun j hj => by
              rcases Nat.lt_or_ge j k with h | h
              · exact HB.out j h
              · obtain rfl : j = k := by omega
                simp only [outC, List.getD_eq_getElem?_getD, Bool.or_eq_false_iff, decide_eq_false_iff_not]
                omega⟩
            case measure => simp [intOf]; omega
        · obtain rfl : k = len := by omega
          go_wp2
          go_ret
          refine ⟨ret_bool ?_, rfl⟩
          simp only [Bool.true_eq, Bool.not_eq_true', List.any_eq_false]
          intro x hx
          obtain ⟨j, hj, rfl⟩ := List.getElem_of_mem hx
          have := HB.out j (by rw [← hle.out]; exact hj)
          simpa [hj] using this
    · have hq : ((xs[0]?.getD 0) != 0) = true := by simpa using hz
      have heq : costOk n xs = false := by
        unfold costOk; simp; intros; simpa using hz
      rw [heq]
      clear heq hz
      go_enter Try.func54, Try.ntmps54
      go_wp2
      go_ret
      exact ⟨rfl, rfl⟩
  · have hq : ((len : Int) != (N : Int)) = true := by simp; omega
    have heq : costOk n xs = false := by
      unfold costOk; rw [hle.out, Int.toNat_natCast, ← HN.out]; simp; omega
    rw [heq]
    clear heq
    go_enter Try.func54, Try.ntmps54
    go_wp2
    go_ret
    exact ⟨rfl, rfl⟩

/-- dibberref08.Cost -/
theorem f54_any (A : Option Addr) (n : Int) (len c : Nat) (xs : List Int) (w : World) (hs : Ints w A len xs) :
    Calls Try.prog 54 #[.int .i64 n, .slice A len c] w fun e w' => e = .returned (.bool (costOk n xs)) ∧ w = w' := by
  by_cases h1 : n < 1
  · have heq : costOk n xs = false := by
      unfold costOk; simp; omega
    rw [heq]
    clear heq
    go_enter Try.func54, Try.ntmps54
    go_wp2
    go_ret
    exact ⟨rfl, rfl⟩
  by_cases h2 : 6 < n
  · have heq : costOk n xs = false := by
      unfold costOk; simp; omega
    rw [heq]
    clear heq
    go_enter Try.func54, Try.ntmps54
    go_wp2
    go_ret
    exact ⟨rfl, rfl⟩
  obtain ⟨m, rfl⟩ := nat_of n (by omega)
  exact f54_good A m len c xs w hs (by omega) (by omega)
end Go.Proofs.Ytpehhbiodmgjeaa
