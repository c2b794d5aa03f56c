/- Walks: inner, outer, least (both), slices.Min, all. -/
import Derived.Test.YtpehhbiodmgjeaaW3
namespace Go.Proofs.Ytpehhbiodmgjeaa
open Go.RowKit

set_option maxHeartbeats 1000000 in
/-- dibberref08.inner -/
theorem f50_any (A : Option Addr) (len c : Nat) (xs : List Int) (g : Nat) (w : World) (hs : Ints w A len xs) (hp : 0 < len) (hl : len ≤ 64) (hg : g < 64) :
    Calls Try.prog 50 #[.slice A len c, .int .i64 (g : Int)] w fun e w' => e = .returned (.int .i64 (inner xs g)) ∧ w = w' := by
  have hfin : Hid (inner xs g = innerTo xs g len) := by unfold inner; rw [hs.len]; rfl
  obtain ⟨b, off, rfl, hc⟩ := hs.ad hp
  have HC := Lib.hid hc
  have hc0 := hc 0 hp
  simp only [Nat.add_zero] at hc0
  clear hc
  go_enter Try.func50, Try.ntmps50
  go_wp2
  go_loop [5, 6] (fun t i => ∃ k : Nat, k ≤ len ∧ i = .int .i64 k ∧ t = .int .i64 (innerTo xs g k)) (fun _ i => len - (intOf i).toNat)
  case atStart => exact ⟨0, by omega, rfl, rfl⟩
  case round =>
    obtain ⟨k, hk, rfl, rfl⟩ := hrel
    by_cases hlt : k < len
    · have hck := HC.out k hlt
      have e := bits_and_nat k g (by omega) (by omega)
      have hst : Hid (innerTo xs g (k + 1) = if k &&& g = k then mn (innerTo xs g k) (xs.getD k 0) else innerTo xs g k) := rfl
      generalize k &&& g = a at *
      by_cases ha : a = k
      · have hq : ((a : Int) == (k : Int)) = true := by simp [ha]
        have hst2 : Hid (innerTo xs g (k + 1) = mn (innerTo xs g k) (xs.getD k 0)) := by rw [hst.out, if_pos ha]; rfl
        clear ha hst
        go_wp2
        go_round
        case rel => exact ⟨k + 1, by omega, by go_num, by rw [hst2.out]; rfl⟩
        case measure => simp [intOf]; omega
      · have hq : ((a : Int) == (k : Int)) = false := by simp; omega
        have hst2 : Hid (innerTo xs g (k + 1) = innerTo xs g k) := by rw [hst.out, if_neg ha]; rfl
        clear ha hst
        go_wp2
        go_round
        case rel => exact ⟨k + 1, by omega, by go_num, by rw [hst2.out]⟩
        case measure => simp [intOf]; omega
    · obtain rfl : k = len := by omega
      go_wp2
      go_ret
      exact ⟨ret_int hfin.out.symm, rfl⟩

set_option maxHeartbeats 1000000 in
/-- dibberref08.outer -/
theorem f51_any (A : Option Addr) (len c : Nat) (xs : List Int) (g : Nat) (w : World) (hs : Ints w A len xs) (hp : 0 < len) (hl : len ≤ 64) (hg : g < 64) :
    Calls Try.prog 51 #[.slice A len c, .int .i64 (g : Int)] w fun e w' => e = .returned (.int .i64 (outer xs g)) ∧ w = w' := by
  have hfin : Hid (outer xs g = outerTo xs g len) := by unfold outer; rw [hs.len]; rfl
  have hfst : Hid (outerTo xs g 0 = xs.getD (len - 1) 0) := by show xs.getD (xs.length - 1) 0 = _; rw [hs.len]
  obtain ⟨b, off, rfl, hc⟩ := hs.ad hp
  have HC := Lib.hid hc
  have hc0 := hc (len - 1) (by omega)
  clear hc
  go_enter Try.func51, Try.ntmps51
  go_wp2
  go_loop [5, 6] (fun t i => ∃ k : Nat, k ≤ len ∧ i = .int .i64 k ∧ t = .int .i64 (outerTo xs g k)) (fun _ i => len - (intOf i).toNat)
  case atStart => exact ⟨0, by omega, rfl, by rw [hfst.out]; rfl⟩
  case round =>
    obtain ⟨k, hk, rfl, rfl⟩ := hrel
    by_cases hlt : k < len
    · have hck := HC.out k hlt
      have e := bits_and_nat k g (by omega) (by omega)
      have hst : Hid (outerTo xs g (k + 1) = if k &&& g = g then mn (outerTo xs g k) (xs.getD k 0) else outerTo xs g k) := rfl
      generalize k &&& g = a at *
      by_cases ha : a = g
      · have hq : ((a : Int) == (g : Int)) = true := by simp [ha]
        have hst2 : Hid (outerTo xs g (k + 1) = mn (outerTo xs g k) (xs.getD k 0)) := by rw [hst.out, if_pos ha]; rfl
        clear ha hst
        go_wp2
        go_round
        case rel => exact ⟨k + 1, by omega, by go_num, by rw [hst2.out]; rfl⟩
        case measure => simp [intOf]; omega
      · have hq : ((a : Int) == (g : Int)) = false := by simp; omega
        have hst2 : Hid (outerTo xs g (k + 1) = outerTo xs g k) := by rw [hst.out, if_neg ha]; rfl
        clear ha hst
        go_wp2
        go_round
        case rel => exact ⟨k + 1, by omega, by go_num, by rw [hst2.out]⟩
        case measure => simp [intOf]; omega
    · obtain rfl : k = len := by omega
      go_wp2
      go_ret
      exact ⟨ret_int hfin.out.symm, rfl⟩

set_option maxHeartbeats 1000000 in
/-- slices.Min -/
theorem f82_any (A : Option Addr) (len c : Nat) (xs : List Int) (w : World) (hs : Ints w A len xs) (hp : 0 < len) :
    Calls Try.prog 82 #[.slice A len c] w fun e w' => e = .returned (.int .i64 (low xs)) ∧ w = w' := by
  have hfin : Hid (low xs = lowTo xs len) := by unfold low; rw [hs.len]; rfl
  have h1 : Hid (lowTo xs 1 = xs.getD 0 0) := by simp [Hid, lowTo, mn]
  have hsm := hs.small
  obtain ⟨b, off, rfl, hc⟩ := hs.ad hp
  have HC := Lib.hid hc
  have hc0 := hc 0 hp
  simp only [Nat.add_zero] at hc0
  clear hc
  go_enter Try.func82, Try.ntmps82
  go_wp2
  go_loop [3, 4] (fun t i => ∃ k : Nat, 1 ≤ k ∧ k ≤ len ∧ i = .int .i64 k ∧ t = .int .i64 (lowTo xs k)) (fun _ i => len - (intOf i).toNat)
  case atStart => exact ⟨1, by omega, by omega, rfl, by rw [h1.out]; rfl⟩
  case round =>
    obtain ⟨k, hk1, hk, rfl, rfl⟩ := hrel
    by_cases hlt : k < len
    · have hck := HC.out k hlt
      go_wp2
      go_round
      case rel => exact ⟨k + 1, by omega, by omega, by go_num, rfl⟩
      case measure => simp [intOf]; omega
    · obtain rfl : k = len := by omega
      go_wp2
      go_ret
      exact ⟨ret_int hfin.out.symm, rfl⟩

/-- (*costs).all -/
theorem f48_any (p n : Nat) (A : Option Addr) (len c : Nat) (w : World) (hp : Costs w p n A len c) (hn : n ≤ 6) :
    Calls Try.prog 48 #[.pointer (some ⟨p, 0, none⟩)] w fun e w' => e = .returned (.int .i64 ((2 ^ n - 1 : Nat) : Int)) ∧ w = w' := by
  obtain ⟨N, hN, hshl⟩ := shl_one n (by omega)
  have hN1 : 1 ≤ N := by rw [hN]; exact Nat.pow_pos (by omega)
  have hN2 : N ≤ 64 := by rw [hN]; exact pow6 n hn
  rw [← hN]
  clear hN
  obtain ⟨hp0, hp1⟩ := hp
  go_enter Try.func48, Try.ntmps48
  go_wp2
  go_ret
  exact ⟨ret_int (by omega), rfl⟩
end Go.Proofs.Ytpehhbiodmgjeaa
