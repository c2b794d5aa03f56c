/- Walks: broken. -/
import Derived.Test.YtmepndnckcpgjaaGreatW2
namespace Go.Proofs.YtmepndnckcpgjaaGreat
open Go.RowKit

theorem or_lt {a b n : Nat} (ha : a < 2 ^ n) (hb : b < 2 ^ n) : a ||| b < 2 ^ n := Nat.or_lt_two_pow ha hb
theorem and_lt {a b n : Nat} (ha : a < n) : a &&& b < n := Nat.lt_of_le_of_lt Nat.and_le_left ha

/-- Block p holds the costs struct of N gardeners over a slice. -/
def Costs (w : World) (p : Nat) (N : Int) (A : Option Addr) (len c : Nat) : Prop :=
  w.cell? ⟨p, 0, none⟩ = some (.int .i64 N) ∧ w.cell? ⟨p, 1, none⟩ = some (.slice A len c)

set_option maxHeartbeats 2000000 in
/-- (*share.costs).clash -/
theorem f53_any (p : Nat) (N : Int) (A : Option Addr) (n len c : Nat) (xs : List Int) (w : World) (hp : Costs w p N A len c) (hs : Ints w A len xs) (hn : n ≤ 6) (hl : len = 2 ^ n) (hb : Bnd xs) :
    Calls Tryz.prog 19 #[.pointer (some ⟨p, 0, none⟩)] w fun e w' => e = .returned (.tuple #[.int .i64 (brkA xs), .int .i64 (brkB xs), .bool (brkT xs)]) ∧ ∃ m, w' = w.drewN m := by
  have hl64 : len ≤ 64 := by rw [hl]; exact pow6 n hn
  have hpos : 0 < len := by rw [hl]; exact Nat.pow_pos (by omega)
  have HL := Lib.hid hl
  clear hl
  obtain ⟨b, off, rfl, hc⟩ := hs.ad hpos
  have HC := Lib.hid hc
  clear hc
  have hle := Lib.hid hs.len
  obtain ⟨hp0, hp1⟩ := hp
  go_enter Tryz.func19, Tryz.ntmps19
  go_wp2
  go_loopw [5, 6, 12] (fun _ _ i wr => ∃ k : Nat, k ≤ len ∧ i = .int .i64 k ∧ (∀ a' b', a' < k → a' < b' → b' < xs.length → bad xs a' b' = false) ∧ ∃ m, wr = w.drewN m) (fun _ _ i _ => len - (intOf i).toNat)
  case atStart => exact ⟨0, by omega, rfl, fun a' b' h => absurd h (by omega), 0, rfl⟩
  case round =>
    obtain ⟨k, hk, rfl, hbef, m, rfl⟩ := hrel
    have HB := Lib.hid hbef
    clear hbef
    by_cases hlt : k < len
    · go_wp2
      go_loopw [6] (fun i wr => ∃ j : Nat, k < j ∧ j ≤ len ∧ i = .int .i64 j ∧ (∀ b', k < b' → b' < j → bad xs k b' = false) ∧ ∃ m, wr = w.drewN m) (fun i _ => len - (intOf i).toNat)
      case atStart => exact ⟨k + 1, by omega, by omega, by go_num, fun b' h1 h2 => absurd h1 (by omega), m, rfl⟩
      case round =>
        obtain ⟨j, hkj, hj, rfl, hbef, m', rfl⟩ := hrel
        have HB2 := Lib.hid hbef
        clear hbef
        by_cases hlj : j < len
        · have hor : k ||| j < len := by rw [HL.out]; rw [HL.out] at hlt hlj; exact or_lt hlt hlj
          have hand : k &&& j < len := and_lt hlt
          have e1 := bits_or_nat k j (by omega) (by omega)
          have e2 := bits_and_nat k j (by omega) (by omega)
          have hbad : Hid (bad xs k j = decide (xs.getD k 0 + xs.getD j 0 < xs.getD (k ||| j) 0 + xs.getD (k &&& j) 0)) := rfl
          generalize k ||| j = o at *
          generalize k &&& j = a at *
          have c1 := HC.out k hlt
          have c2 := HC.out j hlj
          have c3 := HC.out o hor
          have c4 := HC.out a hand
          have b1 := hb k
          have b2 := hb j
          have b3 := hb o
          have b4 := hb a
          simp only [List.getD_eq_getElem?_getD] at b1 b2 b3 b4 c1 c2 c3 c4 hbad
          go_wp2
          go_quiet (fail)
          by_cases ht : xs[k]?.getD 0 + xs[j]?.getD 0 < xs[o]?.getD 0 + xs[a]?.getD 0
          · have hfin := brk_hit xs k j hkj (by rw [hle.out]; omega) (by rw [hbad.out]; exact decide_eq_true ht) HB.out HB2.out
            have HF := Lib.hid hfin
            clear hfin
            go_wp2
            refine bodyPost_ret (results_tmp3 rfl _ _ _) rfl ?_
            exact ⟨by simp [brkA, brkB, brkT, HF.out], by first | exact ⟨_, rfl⟩ | exact ⟨_, World.drewN_drewN _ _ _⟩⟩
          · have hnb : Hid (bad xs k j = false) := by rw [hbad.out]; exact decide_eq_false ht
            go_wp2
            go_roundw
            case rel => exact ⟨j + 1, by omega, by omega, by go_num, fun b' h1 h2 => by
              rcases Nat.lt_or_ge b' j with h | h
              · exact HB2.out b' h1 h
              · obtain rfl : b' = j := by omega
                exact hnb.out, by first | exact ⟨_, rfl⟩ | exact ⟨_, World.drewN_drewN _ _ _⟩⟩
            case measure => simp [intOf]; omega
        · obtain rfl : j = len := by omega
          go_wp2
          go_roundw
          case rel => exact ⟨k + 1, by omega, by go_num, fun a' b' h1 h2 h3 => by
            rcases Nat.lt_or_ge a' k with h | h
            · exact HB.out a' b' h h2 h3
            · obtain rfl : a' = k := by omega
              exact HB2.out b' h2 (by rw [hle.out] at h3; exact h3), _, rfl⟩
          case measure => simp [intOf]; omega
    · obtain rfl : k = len := by omega
      have hfin := brk_miss xs (fun a b h1 h2 => HB.out a b (by rw [hle.out] at h2; omega) h1 h2)
      go_wp2
      refine bodyPost_ret (results_tmp3 rfl _ _ _) rfl ?_
      exact ⟨by simp [brkA, brkB, brkT, hfin], m, rfl⟩
end Go.Proofs.YtmepndnckcpgjaaGreat
