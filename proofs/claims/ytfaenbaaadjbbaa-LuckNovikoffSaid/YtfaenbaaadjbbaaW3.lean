/- Walks: BestOf, Said. -/
import Derived.Test.YtfaenbaaadjbbaaW2
import Derived.Outline
namespace Go.Proofs.Ytfaenbaaadjbbaa
open Go.RowKit

theorem night_tmod (s i : Nat) : ((s : Int) / 2 ^ i).tmod 2 = if s.testBit i then 1 else 0 := by
  rw [Nat.testBit_eq_decide_div_mod_eq, cast_shr]
  generalize s / 2 ^ i = t
  rw [Int.tmod_eq_emod_of_nonneg (by omega)]
  by_cases h : t % 2 = 1
  · simp [h]; omega
  · simp [h]; omega
theorem pow10 (n : Nat) (h : n ≤ 10) : 2 ^ n ≤ 1024 := Nat.le_trans (Nat.pow_le_pow_right (by omega) h) (by decide)
set_option maxHeartbeats 2000000 in
/-- dibberref05.BestOf -/
theorem f21_any (A : Option Addr) (k folk c s : Nat) (said : List (List Int)) (w : World) (hs : IntsS w A k said) (hk : k ≤ 10) (hf : folk ≤ 20) (hl : ∀ i, i < k → (said.getD i []).length = folk) :
    Calls Try.prog 21 #[.int .i64 (k : Int), .int .i64 (folk : Int), .slice A k c, .int .i64 (s : Int)] w fun e w' => e = .returned (.int .i64 (bestTo said k s folk : Int)) ∧ ∃ m, w' = w.drewN m := by
  have HS := Lib.hid hs
  have HL := Lib.hid hl
  clear hs hl
  go_enter Try.func21, Try.ntmps21
  go_wp2
  go_loopw [9, 10, 11, 12] (fun b f _ _ wr => ∃ j : Nat, j ≤ folk ∧ f = .int .i64 (j : Int) ∧ b = .int .i64 (bestTo said k s j : Int) ∧ ∃ m, wr = w.drewN m) (fun _ f _ _ _ => folk - (intOf f).toNat)
  case atStart => exact ⟨0, by omega, rfl, rfl, 0, rfl⟩
  case round =>
    obtain ⟨j, hj, rfl, rfl, m, rfl⟩ := hrel
    have hble := bestTo_le said k s j
    by_cases hlt : j < folk
    · have hst : Hid (bestTo said k s (j + 1) = min (bestTo said k s j) (wrongTo said k s j k)) := rfl
      generalize bestTo said k s j = bj at *
      go_wp2
      go_loopw [11, 12] (fun wr0 i wr => ∃ n : Nat, n ≤ k ∧ i = .int .i64 (n : Int) ∧ wr0 = .int .i64 (wrongTo said k s j n : Int) ∧ ∃ m, wr = w.drewN m) (fun _ i _ => k - (intOf i).toNat)
      case atStart => exact ⟨0, by omega, rfl, rfl, m, rfl⟩
      case round =>
        obtain ⟨n, hn, rfl, rfl, m', rfl⟩ := hrel
        have hwle := wrongTo_le said k s j n
        by_cases hlt2 : n < k
        · have hst2 : Hid (wrongTo said k s j (n + 1) = wrongTo said k s j n + if (said.getD n []).getD j 0 = nightB k s n then 0 else 1) := rfl
          obtain ⟨b, off, rfl, B, d, hc, hi⟩ := HS.out.at_ hlt2
          rw [HL.out n hlt2] at hc hi
          obtain ⟨b2, off2, rfl, hc2⟩ := hi.at_ (show j < folk from hlt)
          have hnt : nightB k s n = if s.testBit (k - 1 - n) then 1 else 0 := rfl
          have es := night_tmod s (k - 1 - n)
          rw [← hnt] at es
          clear hi hnt
          generalize (said.getD n []).getD j 0 = x at *
          generalize wrongTo said k s j n = v at *
          generalize nightB k s n = t at *
          by_cases hx : x = t
          · have hq : (x != t) = false := by simpa using hx
            rw [if_pos hx] at hst2
            clear hx
            go_wp2
            go_quiet (fail)
            go_wp2
            go_roundw
            case rel => exact ⟨n + 1, by omega, by go_num, by rw [hst2.out]; rfl, by first | exact ⟨_, rfl⟩ | exact ⟨_, World.drewN_drewN _ _ _⟩⟩
            case measure => simp [intOf]; omega
          · have hq : (x != t) = true := by simpa using hx
            rw [if_neg hx] at hst2
            clear hx
            go_wp2
            go_quiet (fail)
            go_wp2
            go_roundw
            case rel => exact ⟨n + 1, by omega, by go_num, by rw [hst2.out]; go_num, by first | exact ⟨_, rfl⟩ | exact ⟨_, World.drewN_drewN _ _ _⟩⟩
            case measure => simp [intOf]; omega
        · obtain rfl : n = k := by omega
          go_wp2
          go_roundw
          case rel => exact ⟨j + 1, by omega, by go_num, by rw [hst.out]; go_num, _, rfl⟩
          case measure => simp [intOf]; omega
    · obtain rfl : j = folk := by omega
      go_wp2
      go_ret
      exact ⟨rfl, m, rfl⟩
/-- What is refused. -/
theorem saidOk_row {k folk : Int} {said : List (List Int)} {i : Nat} (hi : i < said.length) (h : bitsB folk (said.getD i []) = false) : saidOk k folk said = false := by
  unfold saidOk
  have : said.all (bitsB folk) = false := by
    rw [List.all_eq_false]
    exact ⟨said[i], List.getElem_mem hi, by simpa [List.getD_eq_getElem?_getD, hi] using h⟩
  rw [this, Bool.and_false]
theorem saidOk_mk {k folk : Nat} {said : List (List Int)} (h1 : 1 ≤ k) (h2 : k ≤ 10) (h3 : 1 ≤ folk) (h4 : folk ≤ 20) (h5 : said.length = k) (h : ∀ i, i < k → bitsB folk (said.getD i []) = true) : saidOk k folk said = true := by
  unfold saidOk
  rw [Bool.and_eq_true, decide_eq_true_eq, List.all_eq_true]
  refine ⟨⟨by omega, by omega, by omega, by omega, by omega⟩, fun x hx => ?_⟩
  obtain ⟨i, hi, rfl⟩ := List.getElem_of_mem hx
  have := h i (by omega)
  simpa [List.getD_eq_getElem?_getD, hi] using this
theorem bitsB_bad {n : Int} {l : List Int} {j : Nat} (hj : j < l.length) (h : bitB (l.getD j 0) = false) : bitsB n l = false := by
  unfold bitsB
  have : l.all bitB = false := by
    rw [List.all_eq_false]
    exact ⟨l[j], List.getElem_mem hj, by simpa [List.getD_eq_getElem?_getD, hj] using h⟩
  rw [this, Bool.and_false]
theorem bitsB_mk {n : Nat} {l : List Int} (hl : l.length = n) (h : ∀ j, j < n → bitB (l.getD j 0) = true) : bitsB n l = true := by
  unfold bitsB
  rw [Bool.and_eq_true, decide_eq_true_eq, List.all_eq_true]
  refine ⟨by omega, fun x hx => ?_⟩
  obtain ⟨i, hi, rfl⟩ := List.getElem_of_mem hx
  have := h i (by omega)
  simpa [List.getD_eq_getElem?_getD, hi] using this
set_option maxHeartbeats 2000000 in
theorem f19_good (A : Option Addr) (k folk c : Nat) (said : List (List Int)) (w : World) (hs : IntsS w A k said) (h1 : 1 ≤ k) (h2 : k ≤ 10) (h3 : 1 ≤ folk) (h4 : folk ≤ 20) :
    Calls Try.prog 19 #[.int .i64 (k : Int), .int .i64 (folk : Int), .slice A k c] w fun e w' => e = .returned (.bool (saidOk k folk said)) ∧ w = w' := by
  have HL := Lib.hid hs.len
  have HS := Lib.hid hs
  clear hs
  go_enter Try.func19, Try.ntmps19
  go_wp2
  go_loop [7, 8] (fun i _ => ∃ n : Nat, n ≤ k ∧ i = .int .i64 (n : Int) ∧ (∀ a, a < n → bitsB folk (said.getD a []) = true)) (fun i _ => k - (intOf i).toNat)
  case atStart => exact ⟨0, by omega, rfl, fun a ha => absurd ha (by omega)⟩
  case round =>
    obtain ⟨n, hn, rfl, hbef⟩ := hrel
    have HB := Lib.hid hbef
    clear hbef
    by_cases hlt : n < k
    · obtain ⟨b, off, rfl, B, d, hc, hi⟩ := HS.out.at_ hlt
      have hrow : Hid (bitsB folk (said.getD n []) = false → saidOk k folk said = false) := saidOk_row (by rw [HL.out]; exact hlt)
      generalize hx : said.getD n [] = x at *
      have HX := Lib.hid hx
      clear hx
      have HI := Lib.hid hi
      have hxs := hi.small
      clear hi
      by_cases hl : x.length = folk
      · have hq : ((x.length : Int) != (folk : Int)) = false := by simp; omega
        have HLL := Lib.hid hl
        clear hl
        go_wp2
        go_loop [8] (fun i => ∃ m : Nat, m ≤ folk ∧ i = .int .i64 (m : Int) ∧ (∀ a, a < m → bitB (x.getD a 0) = true)) (fun i => folk - (intOf i).toNat)
        case atStart => exact ⟨0, by omega, rfl, fun a ha => absurd ha (by omega)⟩
        case round =>
          obtain ⟨m, hm, rfl, hbef⟩ := hrel
          have HB2 := Lib.hid hbef
          clear hbef
          by_cases hlt2 : m < folk
          · obtain ⟨b2, off2, rfl, hc2⟩ := HI.out.at_ (show m < x.length by rw [HLL.out]; exact hlt2)
            have hbad : Hid (bitB (x.getD m 0) = false → saidOk k folk said = false) := fun h => hrow.out (bitsB_bad (by rw [HLL.out]; exact hlt2) h)
            have hb1 : (m : Int) < x.length := by rw [HLL.out]; omega
            generalize hy : x.getD m 0 = y at *
            have HY := Lib.hid hy
            clear hy
            cases hbt : bitB y
            · have k54 := Lib.hid (f54_any y w)
              rw [hbt] at k54
              have hfin := Lib.hid (hbad.out hbt)
              clear hbt
              go_wp2_with fail
              refine k54.out.mono ?_
              rintro e w' ⟨rfl, rfl⟩
              go_wp2
              go_ret
              exact ⟨ret_bool hfin.out.symm, rfl⟩
            · have k54 := Lib.hid (f54_any y w)
              rw [hbt] at k54
              have HT := Lib.hid hbt
              clear hbt
              go_wp2_with fail
              refine k54.out.mono ?_
              rintro e w' ⟨rfl, rfl⟩
              go_wp2
              go_round
              case rel => exact ⟨m + 1, by omega, by go_num, fun a ha => by
                rcases Nat.lt_or_ge a m with h | h
                · exact HB2.out a h
                · obtain rfl : a = m := by omega
                  rw [HY.out]; exact HT.out⟩
              case measure => simp [intOf]; omega
          · obtain rfl : m = folk := by omega
            go_wp2
            go_round
            case rel => exact ⟨n + 1, by omega, by go_num, fun a ha => by
              rcases Nat.lt_or_ge a n with h | h
              · exact HB.out a h
              · obtain rfl : a = n := by omega
                rw [HX.out]; exact bitsB_mk HLL.out HB2.out⟩
            case measure => simp [intOf]; omega
      · have hq : ((x.length : Int) != (folk : Int)) = true := by simp; omega
        have hfin := Lib.hid (hrow.out (by unfold bitsB; rw [decide_eq_false (by omega)]; rfl))
        clear hl
        go_wp2
        go_ret
        exact ⟨ret_bool hfin.out.symm, rfl⟩
    · obtain rfl : n = k := by omega
      have hfin : Hid (saidOk n folk said = true) := saidOk_mk h1 h2 h3 h4 HL.out HB.out
      go_wp2
      go_ret
      exact ⟨ret_bool hfin.out.symm, rfl⟩
/-- dibberref05.Said -/
theorem f19_any (A : Option Addr) (k folk : Int) (n c : Nat) (said : List (List Int)) (w : World) (hs : IntsS w A n said) :
    Calls Try.prog 19 #[.int .i64 k, .int .i64 folk, .slice A n c] w fun e w' => e = .returned (.bool (saidOk k folk said)) ∧ w = w' := by
  have hsm := hs.small
  by_cases h : 1 ≤ k ∧ k ≤ 10 ∧ 1 ≤ folk ∧ folk ≤ 20 ∧ (n : Int) = k
  · obtain ⟨h1, h2, h3, h4, rfl⟩ := h
    obtain ⟨m, rfl⟩ := nat_of folk (by omega)
    exact f19_good A n m c said w hs (by omega) (by omega) (by omega) (by omega)
  · have hfin : Hid (saidOk k folk said = false) := by
      unfold saidOk; rw [hs.len, decide_eq_false h]; rfl
    by_cases t1 : k < 1
    · clear h
      go_enter Try.func19, Try.ntmps19
      go_wp2
      go_ret
      exact ⟨ret_bool hfin.out.symm, rfl⟩
    by_cases t2 : 10 < k
    · clear h
      go_enter Try.func19, Try.ntmps19
      go_wp2
      go_ret
      exact ⟨ret_bool hfin.out.symm, rfl⟩
    by_cases t3 : folk < 1
    · clear h
      go_enter Try.func19, Try.ntmps19
      go_wp2
      go_ret
      exact ⟨ret_bool hfin.out.symm, rfl⟩
    by_cases t4 : 20 < folk
    · clear h
      go_enter Try.func19, Try.ntmps19
      go_wp2
      go_ret
      exact ⟨ret_bool hfin.out.symm, rfl⟩
    have hq : ((n : Int) != k) = true := by simp; omega
    clear h
    go_enter Try.func19, Try.ntmps19
    go_wp2
    go_ret
    exact ⟨ret_bool hfin.out.symm, rfl⟩
end Go.Proofs.Ytfaenbaaadjbbaa
