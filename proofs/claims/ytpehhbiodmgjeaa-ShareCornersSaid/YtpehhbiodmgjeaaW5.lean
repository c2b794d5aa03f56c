/- Walks: least (both), sized, submodular, asked. -/
import Derived.Test.YtpehhbiodmgjeaaW4
namespace Go.Proofs.Ytpehhbiodmgjeaa
open Go.RowKit

set_option maxHeartbeats 2000000 in
/-- dibberref08.least -/
theorem f47_any (A : Option Addr) (n len c : Nat) (xs : List Int) (w : World) (hs : Ints w A len xs) (hn : n ≤ 6) (hln : len = 2 ^ n) :
    Calls Try.prog 47 #[.slice A len c] w fun e w' => e = .returned (.tuple #[.int .i64 (low xs), .int .i64 (small xs : Int), .int .i64 (large xs : Int)]) ∧ w = w' := by
  have hl : len ≤ 64 := by rw [hln]; exact pow6 n hn
  have hp : 0 < len := by rw [hln]; exact Nat.pow_pos (by omega)
  have hf1 : Hid (low xs = lowTo xs len) := by unfold low; rw [hs.len]; rfl
  have hf2 : Hid (small xs = smallTo xs (low xs) len) := by unfold small; rw [hs.len]; rfl
  have hf3 : Hid (large xs = largeTo xs (low xs) len) := by unfold large; rw [hs.len]; rfl
  have hg2 : Hid (∀ k, smallTo xs (low xs) k ≤ len - 1) := fun k => by have := smallTo_le xs (low xs) k; rw [hs.len] at this; exact this
  have hg3 : Hid (∀ k, k ≤ len → largeTo xs (low xs) k < len) := fun k hk => by have := largeTo_lt xs (low xs) n k (by rw [hs.len]; exact hln) (by rw [hs.len]; exact hk); rw [hs.len] at this; exact this
  have hs0 : Hid (smallTo xs (low xs) 0 = len - 1) := by show xs.length - 1 = _; rw [hs.len]
  clear hln
  obtain ⟨b, off, rfl, hc⟩ := hs.ad hp
  have HC := Lib.hid hc
  have hc0 := hc 0 hp
  simp only [Nat.add_zero] at hc0
  clear hc
  go_enter Try.func47, Try.ntmps47
  go_wp2
  go_loop [5, 6] (fun t i => ∃ k : Nat, k ≤ len ∧ i = .int .i64 k ∧ t = .int .i64 (lowTo xs k)) (fun _ i => len - (intOf i).toNat)
  case atStart => exact ⟨0, by omega, rfl, rfl⟩
  case round =>
    obtain ⟨k, hk, rfl, rfl⟩ := hrel
    by_cases hlt : k < len
    · have hck := HC.out k hlt
      go_wp2
      go_round
      case rel => exact ⟨k + 1, by omega, by go_num, rfl⟩
      case measure => simp [intOf]; omega
    · obtain rfl : k = len := by omega
      rw [← hf1.out]
      go_wp2
      go_loop [7, 8, 9] (fun s l i => ∃ j : Nat, j ≤ k ∧ i = .int .i64 j ∧ s = .int .i64 (smallTo xs (low xs) j : Int) ∧ l = .int .i64 (largeTo xs (low xs) j : Int)) (fun _ _ i => k - (intOf i).toNat)
      case atStart => exact ⟨0, by omega, rfl, by rw [hs0.out]; go_num, rfl⟩
      case round =>
        obtain ⟨j, hj, rfl, rfl, rfl⟩ := hrel
        by_cases hlt2 : j < k
        · have hcj := HC.out j hlt2
          have g1 := hg2.out j
          have g2 := hg3.out j hj
          have e1 := bits_and_nat (smallTo xs (low xs) j) j (by omega) (by omega)
          have e2 := bits_or_nat (largeTo xs (low xs) j) j (by omega) (by omega)
          have hst1 : Hid (smallTo xs (low xs) (j + 1) = if xs.getD j 0 = low xs then smallTo xs (low xs) j &&& j else smallTo xs (low xs) j) := rfl
          have hst2 : Hid (largeTo xs (low xs) (j + 1) = if xs.getD j 0 = low xs then largeTo xs (low xs) j ||| j else largeTo xs (low xs) j) := rfl
          by_cases ha : xs.getD j 0 = low xs
          · have hq : (xs[j]?.getD 0 == low xs) = true := by simpa using ha
            have hu1 : Hid (smallTo xs (low xs) (j + 1) = smallTo xs (low xs) j &&& j) := by rw [hst1.out, if_pos ha]; rfl
            have hu2 : Hid (largeTo xs (low xs) (j + 1) = largeTo xs (low xs) j ||| j) := by rw [hst2.out, if_pos ha]; rfl
            clear ha hst1 hst2
            go_wp2
            go_round
            case rel => exact ⟨j + 1, by omega, by go_num, by rw [hu1.out], by rw [hu2.out]⟩
            case measure => simp [intOf]; omega
          · have hq : (xs[j]?.getD 0 == low xs) = false := by simpa using ha
            have hu1 : Hid (smallTo xs (low xs) (j + 1) = smallTo xs (low xs) j) := by rw [hst1.out, if_neg ha]; rfl
            have hu2 : Hid (largeTo xs (low xs) (j + 1) = largeTo xs (low xs) j) := by rw [hst2.out, if_neg ha]; rfl
            clear ha hst1 hst2
            go_wp2
            go_round
            case rel => exact ⟨j + 1, by omega, by go_num, by rw [hu1.out], by rw [hu2.out]⟩
            case measure => simp [intOf]; omega
        · obtain rfl : j = k := by omega
          go_wp2
          refine bodyPost_ret (results_tmp3 rfl _ _ _) rfl ?_
          exact ⟨by rw [hf2.out, hf3.out]; rfl, rfl⟩

set_option maxHeartbeats 2000000 in
/-- (*costs).least -/
theorem f45_any (p : Nat) (A : Option Addr) (n len c : Nat) (xs : List Int) (w : World) (hp : Costs w p n A len c) (hs : Ints w A len xs) (hn : n ≤ 6) (hln : len = 2 ^ n) :
    Calls Try.prog 45 #[.pointer (some ⟨p, 0, none⟩)] w fun e w' => e = .returned (.tuple #[.int .i64 (low xs), .int .i64 (small xs : Int), .int .i64 (large xs : Int)]) ∧ w = w' := by
  have hl : len ≤ 64 := by rw [hln]; exact pow6 n hn
  have hpos : 0 < len := by rw [hln]; exact Nat.pow_pos (by omega)
  have hf2 : Hid (small xs = smallTo xs (low xs) len) := by unfold small; rw [hs.len]; rfl
  have hf3 : Hid (large xs = largeTo xs (low xs) len) := by unfold large; rw [hs.len]; rfl
  have hg2 : Hid (∀ k, smallTo xs (low xs) k ≤ len - 1) := fun k => by have := smallTo_le xs (low xs) k; rw [hs.len] at this; exact this
  have hg3 : Hid (∀ k, k ≤ len → largeTo xs (low xs) k < len) := fun k hk => by have := largeTo_lt xs (low xs) n k (by rw [hs.len]; exact hln) (by rw [hs.len]; exact hk); rw [hs.len] at this; exact this
  have hs0 : Hid (smallTo xs (low xs) 0 = 2 ^ n - 1) := by show xs.length - 1 = _; rw [hs.len, hln]
  have k82 : Hid (Calls Try.prog 82 #[.slice A len c] w fun e w' => e = .returned (.int .i64 (low xs)) ∧ w = w') := f82_any A len c xs w hs hpos
  have k48 : Hid (Calls Try.prog 48 #[.pointer (some ⟨p, 0, none⟩)] w fun e w' => e = .returned (.int .i64 ((2 ^ n - 1 : Nat) : Int)) ∧ w = w') := f48_any p n A len c w hp hn
  clear hln
  obtain ⟨b, off, rfl, hc⟩ := hs.ad hpos
  have HC := Lib.hid hc
  clear hc
  obtain ⟨hp0, hp1⟩ := hp
  generalize 2 ^ n - 1 = M at *
  go_enter Try.func45, Try.ntmps45
  go_wp2_with fail
  refine k82.out.mono ?_
  rintro e w' ⟨rfl, rfl⟩
  go_wp2_with fail
  refine k48.out.mono ?_
  rintro e w' ⟨rfl, rfl⟩
  go_wp2
  go_loop [6, 7, 8, 9, 22] (fun s l _ _ i => ∃ j : Nat, j ≤ len ∧ i = .int .i64 j ∧ s = .int .i64 (smallTo xs (low xs) j : Int) ∧ l = .int .i64 (largeTo xs (low xs) j : Int)) (fun _ _ _ _ i => len - (intOf i).toNat)
  case atStart => exact ⟨0, by omega, rfl, by rw [hs0.out], rfl⟩
  case round =>
    obtain ⟨j, hj, rfl, rfl, rfl⟩ := hrel
    by_cases hlt2 : j < len
    · have hcj := HC.out j hlt2
      have g1 := hg2.out j
      have g2 := hg3.out j hj
      have e1 := bits_and_nat (smallTo xs (low xs) j) j (by omega) (by omega)
      have e2 := bits_or_nat (largeTo xs (low xs) j) j (by omega) (by omega)
      have hst1 : Hid (smallTo xs (low xs) (j + 1) = if xs.getD j 0 = low xs then smallTo xs (low xs) j &&& j else smallTo xs (low xs) j) := rfl
      have hst2 : Hid (largeTo xs (low xs) (j + 1) = if xs.getD j 0 = low xs then largeTo xs (low xs) j ||| j else largeTo xs (low xs) j) := rfl
      by_cases ha : xs.getD j 0 = low xs
      · have hq : (xs[j]?.getD 0 == low xs) = true := by simpa using ha
        have hu1 : Hid (smallTo xs (low xs) (j + 1) = smallTo xs (low xs) j &&& j) := by rw [hst1.out, if_pos ha]; rfl
        have hu2 : Hid (largeTo xs (low xs) (j + 1) = largeTo xs (low xs) j ||| j) := by rw [hst2.out, if_pos ha]; rfl
        clear ha hst1 hst2
        go_wp2
        go_round
        case rel => exact ⟨j + 1, by omega, by go_num, by rw [hu1.out], by rw [hu2.out]⟩
        case measure => simp [intOf]; omega
      · have hq : (xs[j]?.getD 0 == low xs) = false := by simpa using ha
        have hu1 : Hid (smallTo xs (low xs) (j + 1) = smallTo xs (low xs) j) := by rw [hst1.out, if_neg ha]; rfl
        have hu2 : Hid (largeTo xs (low xs) (j + 1) = largeTo xs (low xs) j) := by rw [hst2.out, if_neg ha]; rfl
        clear ha hst1 hst2
        go_wp2
        go_round
        case rel => exact ⟨j + 1, by omega, by go_num, by rw [hu1.out], by rw [hu2.out]⟩
        case measure => simp [intOf]; omega
    · obtain rfl : j = len := by omega
      go_wp2
      refine bodyPost_ret (results_tmp3 rfl _ _ _) rfl ?_
      exact ⟨by rw [hf2.out, hf3.out]; rfl, rfl⟩

/-- dibberref08.asked -/
theorem f46_any (A : Option Addr) (n : Int) (len c : Nat) (xs : List Int) (w : World) (hs : Ints w A len xs) :
    Calls Try.prog 46 #[.int .i64 n, .slice A len c] w fun e w' => e = .returned (.int .i64 (asked n xs)) ∧ ∃ m, w' = w.drewN m := by
  have k54 : Hid (Calls Try.prog 54 #[.int .i64 n, .slice A len c] w fun e w' => e = .returned (.bool (costOk n xs)) ∧ w = w') := f54_any A n len c xs w hs
  cases hok : costOk n xs
  · have hfin : Hid (asked n xs = 2) := by unfold asked; rw [hok]; rfl
    rw [hok] at k54
    clear hok
    go_enter Try.func46, Try.ntmps46
    go_wp2_with fail
    refine k54.out.mono ?_
    rintro e w' ⟨rfl, rfl⟩
    go_wp2
    go_ret
    exact ⟨ret_int hfin.out.symm, 0, rfl⟩
  · obtain ⟨m, rfl, h1, h6, hln, hbd, h0⟩ := costOk_facts hok
    have hfin : Hid (asked m xs = if brkT xs then 5 else 0) := by unfold asked; rw [hok]; rfl
    rw [hok] at k54
    have k55 : Hid (Calls Try.prog 55 #[.slice A len c] w fun e w' => e = .returned (.tuple #[.int .i64 (brkA xs), .int .i64 (brkB xs), .bool (brkT xs)]) ∧ ∃ m, w' = w.drewN m) :=
      f55_any A m len c xs w hs h6 (by rw [← hs.len]; exact hln) hbd
    clear hok h0 hln
    cases hT : brkT xs
    all_goals
      rw [hT] at k55 hfin
      clear hT
      go_enter Try.func46, Try.ntmps46
      go_wp2_with fail
      refine k54.out.mono ?_
      rintro e w' ⟨rfl, rfl⟩
      go_wp2_with fail
      refine k55.out.mono ?_
      rintro e w' ⟨rfl, md, rfl⟩
      go_wp2
      go_ret
      exact ⟨ret_int hfin.out.symm, _, rfl⟩
end Go.Proofs.Ytpehhbiodmgjeaa
