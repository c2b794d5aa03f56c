/- Walks: the specification's again; Check, valid, full, Bed, Full. -/
import Derived.Test.YtiodednhadnekaaDoorW3
namespace Go.Proofs.YtiodednhadnekaaDoor
open Go.RowKit Go.Deep

set_option maxRecDepth 100000 in
set_option maxHeartbeats 4000000 in
/-- dibberref01.again -/
theorem f73_any (A : Option Addr) (N c n : Nat) (b : List (List Int)) (w : World) (hs : Beds w A N c b) (hrow : ∀ i, i < N → (b.getD i []).length = n) (hn : n ≤ 1000) :
    Calls Tryd.prog 73 #[.slice A N c] w fun e w' => e = .returned (.tuple #[.int .i64 (clR b), .int .i64 (clC b), .bool (clB b)]) ∧ w = w' := by
  have hl := hs.small
  have HS := Lib.hid hs
  have HL := Lib.hid hs.len
  have HROW := Lib.hid hrow
  have HHIT : Hid (∀ r k, r < N → k < n → clashAt b r k = true → (∀ i j, i < r → j < n → clashAt b i j = false) → (∀ j, j < k → clashAt b r j = false) → clR b = r ∧ clC b = k ∧ clB b = true) := fun r k hr hk h1 h2 h3 =>
    cl_some (clash_some (by rw [HL.out]; exact hr) (by rw [HROW.out r hr]; exact hk) h1 (fun i j hi hj => h2 i j hi (by rw [HROW.out i (by omega)] at hj; exact hj)) h3)
  have HMISS : Hid ((∀ i j, i < N → j < n → clashAt b i j = false) → clR b = 0 ∧ clC b = 0 ∧ clB b = false) := fun h => cl_none (clash_none.2 fun r k hr hk => h r k (by rw [HL.out] at hr; exact hr) (by rw [HROW.out r (by rw [HL.out] at hr; exact hr)] at hk; exact hk))
  clear hs hrow
  go_enter Tryd.func73, Tryd.ntmps73
  go_wp2
  go_loop [5] (fun i => ∃ r : Nat, r ≤ N ∧ i = .int .i64 (r : Int) ∧ Hid (∀ i j, i < r → j < n → clashAt b i j = false)) (fun i => N - (intOf i).toNat)
  case atStart => exact ⟨0, by omega, rfl, fun i j hi => absurd hi (by omega)⟩
  case round => as_aux_lemma =>
    obtain ⟨r, hr, rfl, hin⟩ := hrel
    by_cases hlr : r < N
    · obtain ⟨g, o, rfl, B, d, hc, hld, _, hi⟩ := HS.out.at_ hlr
      rw [HROW.out r hlr] at hc hi hld
      have HI := Lib.hid hi
      have HIN := Lib.hid hin.out
      have r0 : (0 : Int) ≤ (r : Int) := by omega
      have rn : (r : Int) < (N : Int) := by omega
      have HAT : Hid (∀ k, k < n → (clashAt b r k = true ↔ 0 ≤ (b.getD r []).getD k 0 ∧ ((∃ i, i < r ∧ gAt b i k = (b.getD r []).getD k 0) ∨ ∃ j, j < k ∧ (b.getD r []).getD j 0 = (b.getD r []).getD k 0))) := fun k hk => clashAt_iff (by rw [HL.out]; exact hlr) (by rw [HROW.out r hlr]; exact hk)
      generalize b.getD r [] = l at *
      clear hi hin
      go_wp2
      go_loop [6] (fun i => ∃ k : Nat, k ≤ n ∧ i = .int .i64 (k : Int) ∧ Hid (∀ j, j < k → clashAt b r j = false)) (fun i => n - (intOf i).toNat)
      case atStart => exact ⟨0, by omega, rfl, fun j hj => absurd hj (by omega)⟩
      case round => as_aux_lemma =>
        obtain ⟨k, hk, rfl, hin⟩ := hrel
        by_cases hlk : k < n
        · obtain ⟨g2, o2, rfl, hc2⟩ := HI.out.at_ hlk
          have HAT := Lib.hid (HAT.out k hlk)
          have HIN2 := Lib.hid hin.out
          have HN : Hid (clashAt b r k = false → ∀ j, j < k + 1 → clashAt b r j = false) := fun h j hj => by
            rcases Nat.lt_or_ge j k with h1 | h1
            · exact HIN2.out j h1
            · obtain rfl : j = k := by omega
              exact h
          obtain ⟨x, hx⟩ : ∃ x, x = l.getD k 0 := ⟨_, rfl⟩
          rw [← hx] at HAT hc2
          have HHIT := Lib.hid (HHIT.out r k hlr hlk)
          clear hin hx
          have k0 : (0 : Int) ≤ (k : Int) := by omega
          have kn : (k : Int) < (n : Int) := by omega
          by_cases hx0 : x < 0
          · have HQ := Lib.hid (HN.out (by
              cases h : clashAt b r k
              · rfl
              · have := (HAT.out.1 h).1; omega))
            have hx1 : decide (0 ≤ x) = false := decide_eq_false (by omega)
            go_wp2
            go_loop [8] (fun i => i = .int .i64 0) (fun _ => 0)
            case atStart => rfl
            case round => as_aux_lemma =>
              obtain rfl := hrel
              go_wp2
              all_goals
                go_loop [9] (fun i => i = .int .i64 0) (fun _ => 0)
                case atStart => rfl
                case round => as_aux_lemma =>
                  obtain rfl := hrel
                  go_wp2
                  all_goals
                    go_round
                    case rel => exact ⟨k + 1, by omega, by go_num, HQ.out⟩
                    case measure => simp [intOf]; omega
          · have hx1 : 0 ≤ x := by omega
            go_wp2
            go_loop [8] (fun i => ∃ t : Nat, t ≤ k ∧ i = .int .i64 (t : Int) ∧ Hid (∀ j, j < t → l.getD j 0 ≠ x)) (fun i => k - (intOf i).toNat)
            case atStart => exact ⟨0, by omega, rfl, fun j hj => absurd hj (by omega)⟩
            case round => as_aux_lemma =>
              obtain ⟨t, ht, rfl, hin⟩ := hrel
              by_cases hlt : t < k
              · obtain ⟨g3, o3, e3, hc3⟩ := HI.out.at_ (show t < n by omega)
                injection e3 with e3
                injection e3 with e4 e5
                subst e4 e5
                have HEQ : Hid (l.getD t 0 = x → clR b = r ∧ clC b = k ∧ clB b = true) := fun h => HHIT.out (HAT.out.2 ⟨hx1, .inr ⟨t, hlt, h⟩⟩) HIN.out HIN2.out
                have HNE : Hid (l.getD t 0 ≠ x → ∀ j, j < t + 1 → l.getD j 0 ≠ x) := fun h j hj => by
                  rcases Nat.lt_or_ge j t with h1 | h1
                  · exact hin.out j h1
                  · obtain rfl : j = t := by omega
                    exact h
                generalize l.getD t 0 = y at *
                have t0 : (0 : Int) ≤ (t : Int) := by omega
                have tn : (t : Int) < (n : Int) := by omega
                clear hin
                by_cases hy : y = x
                · obtain ⟨t1, t2, t3⟩ := HEQ.out hy
                  have HT := Lib.hid t1
                  have HT2 := Lib.hid t2
                  have HT3 := Lib.hid t3
                  have hq : (y == x) = true := by simpa using hy
                  clear t1 t2 t3 hy
                  go_wp2
                  go_ret3
                  exact ⟨by rw [HT.out, HT2.out, HT3.out]; rfl, rfl⟩
                · have hq : (y == x) = false := by simpa using hy
                  have HQ := Lib.hid (HNE.out hy)
                  clear hy
                  go_wp2
                  go_round
                  case rel => exact ⟨t + 1, by omega, by go_num, HQ.out⟩
                  case measure => simp [intOf]; omega
              · obtain rfl : t = k := by omega
                have HROWS := Lib.hid hin.out
                clear hin
                go_wp2
                go_loop [9] (fun i => ∃ s : Nat, s ≤ r ∧ i = .int .i64 (s : Int) ∧ Hid (∀ j, j < s → gAt b j t ≠ x)) (fun i => r - (intOf i).toNat)
                case atStart => exact ⟨0, by omega, rfl, fun j hj => absurd hj (by omega)⟩
                case round => as_aux_lemma =>
                  obtain ⟨s, hs, rfl, hin⟩ := hrel
                  by_cases hls : s < r
                  · obtain ⟨g3, o3, e3, B3, d3, hc3, hld3, _, hi3⟩ := HS.out.at_ (show s < N by omega)
                    injection e3 with e3
                    injection e3 with e4 e5
                    subst e4 e5
                    rw [HROW.out s (by omega)] at hc3 hi3
                    obtain ⟨g4, o4, rfl, hc4⟩ := hi3.at_ hlk
                    have HEQ : Hid ((b.getD s []).getD t 0 = x → clR b = r ∧ clC b = t ∧ clB b = true) := fun h => HHIT.out (HAT.out.2 ⟨hx1, .inl ⟨s, hls, h⟩⟩) HIN.out HIN2.out
                    have HNE : Hid ((b.getD s []).getD t 0 ≠ x → ∀ j, j < s + 1 → gAt b j t ≠ x) := fun h j hj => by
                      rcases Nat.lt_or_ge j s with h1 | h1
                      · exact hin.out j h1
                      · obtain rfl : j = s := by omega
                        exact h
                    generalize (b.getD s []).getD t 0 = y at *
                    have s0 : (0 : Int) ≤ (s : Int) := by omega
                    have sn : (s : Int) < (N : Int) := by omega
                    clear hin hi3
                    by_cases hy : y = x
                    · obtain ⟨t1, t2, t3⟩ := HEQ.out hy
                      have HT := Lib.hid t1
                      have HT2 := Lib.hid t2
                      have HT3 := Lib.hid t3
                      have hq : (y == x) = true := by simpa using hy
                      clear t1 t2 t3 hy
                      go_wp2
                      go_ret3
                      exact ⟨by rw [HT.out, HT2.out, HT3.out]; rfl, rfl⟩
                    · have hq : (y == x) = false := by simpa using hy
                      have HQ := Lib.hid (HNE.out hy)
                      clear hy
                      go_wp2
                      go_round
                      case rel => exact ⟨s + 1, by omega, by go_num, HQ.out⟩
                      case measure => simp [intOf]; omega
                  · obtain rfl : s = r := by omega
                    have HQ := Lib.hid (HN.out (by
                      cases h : clashAt b s t
                      · rfl
                      · rcases (HAT.out.1 h).2 with ⟨i, h1, h2⟩ | ⟨j, h1, h2⟩
                        · exact absurd h2 (hin.out i h1)
                        · exact absurd h2 (HROWS.out j h1)))
                    clear hin
                    go_wp2
                    go_round
                    case rel => exact ⟨t + 1, by omega, by go_num, HQ.out⟩
                    case measure => simp [intOf]; omega
        · obtain rfl : k = n := by omega
          have HQ : Hid (∀ i j, i < r + 1 → j < k → clashAt b i j = false) := fun i j hi hj => by
            rcases Nat.lt_or_ge i r with h1 | h1
            · exact HIN.out i j h1 hj
            · obtain rfl : i = r := by omega
              exact hin.out j hj
          clear hin
          go_wp2
          go_round
          case rel => exact ⟨r + 1, by omega, by go_num, HQ.out⟩
          case measure => simp [intOf]; omega
    · obtain rfl : r = N := by omega
      obtain ⟨t1, t2, t3⟩ := HMISS.out hin.out
      have HT := Lib.hid t1
      have HT2 := Lib.hid t2
      have HT3 := Lib.hid t3
      clear t1 t2 t3 hin
      go_wp2
      go_ret3
      exact ⟨by rw [HT.out, HT2.out, HT3.out]; rfl, rfl⟩
end Go.Proofs.YtiodednhadnekaaDoor
