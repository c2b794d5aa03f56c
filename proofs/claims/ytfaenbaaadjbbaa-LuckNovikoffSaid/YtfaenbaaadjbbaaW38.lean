/- Walk: the specification's Record. -/
import Derived.Test.YtfaenbaaadjbbaaW37
import Derived.Test.YtfaenbaaadjbbaaPlain13
namespace Go.Proofs.Ytfaenbaaadjbbaa
open Go.RowKit

theorem rec_two {n : Int} {said : List (List Int)} {came : List Int} (h1 : 1 ≤ n) (h2 : n ≤ 20) (h3 : said.length ≤ 200) (h : recErr n said came ≠ 0) : recErr n said came = 2 := by
  unfold recErr at h ⊢
  rw [if_pos ⟨h1, h2⟩, if_pos h3] at h ⊢
  split at h
  · exact absurd rfl h
  · rename_i h4; rw [if_neg h4]
theorem rec_row {N : Nat} {said : List (List Int)} {came : List Int} (h1 : 1 ≤ N) (h2 : N ≤ 20) (h3 : said.length ≤ 200) {i : Nat} (hi : i < said.length) (h : bitsB N (said.getD i []) = false) : recErr N said came = 2 := by
  refine rec_two (by omega) (by omega) h3 fun e => ?_
  obtain ⟨M, hM, _, _, _, _, h4, _⟩ := recErr_facts e
  obtain rfl : N = M := by omega
  obtain ⟨a, b⟩ := h4 i hi
  unfold bitsB at h
  rw [b, decide_eq_true (by omega)] at h
  cases h
theorem rec_len {N : Nat} {said : List (List Int)} {came : List Int} (h1 : 1 ≤ N) (h2 : N ≤ 20) (h3 : said.length ≤ 200) (h : came.length ≠ said.length) : recErr N said came = 2 := by
  refine rec_two (by omega) (by omega) h3 fun e => ?_
  obtain ⟨M, hM, _, _, _, h4, _⟩ := recErr_facts e
  exact h h4
theorem rec_came {N : Nat} {said : List (List Int)} {came : List Int} (h1 : 1 ≤ N) (h2 : N ≤ 20) (h3 : said.length ≤ 200) (i : Nat) (hi : i < came.length) (h : bitB (came.getD i 0) = false) : recErr N said came = 2 := by
  refine rec_two (by omega) (by omega) h3 fun e => ?_
  obtain ⟨M, hM, _, _, _, _, _, h4⟩ := recErr_facts e
  rw [List.all_eq_true] at h4
  have := h4 _ (List.getElem_mem hi)
  have e : came.getD i 0 = came[i] := by simp [List.getD_eq_getElem?_getD, hi]
  rw [e, this] at h
  cases h
theorem rec_good {N : Nat} {said : List (List Int)} {came : List Int} (h1 : 1 ≤ N) (h2 : N ≤ 20) (h3 : said.length ≤ 200) (h4 : ∀ i, i < said.length → bitsB N (said.getD i []) = true) (h5 : came.length = said.length) (h6 : ∀ i, i < came.length → bitB (came.getD i 0) = true) : recErr N said came = 0 := by
  unfold recErr
  rw [if_pos (by omega), if_pos h3, if_pos]
  rw [Bool.and_eq_true, List.all_eq_true]
  refine ⟨fun x hx => ?_, ?_⟩
  · obtain ⟨j, hj, rfl⟩ := List.getElem_of_mem hx
    have := h4 j hj
    simpa [List.getD_eq_getElem?_getD, hj] using this
  · unfold bitsB
    rw [Bool.and_eq_true, decide_eq_true_eq, List.all_eq_true]
    refine ⟨by omega, fun x hx => ?_⟩
    obtain ⟨j, hj, rfl⟩ := List.getElem_of_mem hx
    have := h6 j hj
    simpa [List.getD_eq_getElem?_getD, hj] using this
set_option maxRecDepth 100000 in
set_option maxHeartbeats 2000000 in
theorem f35_good (A B : Option Addr) (N k c m d : Nat) (said : List (List Int)) (came : List Int) (w : World) (hs : IntsS w A k said) (ho : Ints w B m came) (h1 : 1 ≤ N) (h2 : N ≤ 20) (h3 : k ≤ 200) :
    Calls Try.prog 35 #[.int .i64 (N : Int), .slice A k c, .slice B m d] w fun e w' => e = .returned (.int .i64 (recErr N said came)) ∧ w = w' := by
  have hm := ho.small
  have hl3 : said.length ≤ 200 := by rw [hs.len]; exact h3
  have R1 : Hid (∀ i, i < k → bitsB N (said.getD i []) = false → recErr N said came = 2) := fun i hi h => rec_row h1 h2 hl3 (by rw [hs.len]; exact hi) h
  have R2 : Hid (m ≠ k → recErr N said came = 2) := fun h => rec_len h1 h2 hl3 (by rw [hs.len, ho.len]; exact h)
  have R3 : Hid (∀ i, i < m → bitB (came.getD i 0) = false → recErr N said came = 2) := fun i hi h => rec_came h1 h2 hl3 i (by rw [ho.len]; exact hi) h
  have R4 : Hid ((∀ i, i < k → bitsB N (said.getD i []) = true) → m = k → (∀ i, i < m → bitB (came.getD i 0) = true) → recErr N said came = 0) := fun a b c =>
    rec_good h1 h2 hl3 (by rw [hs.len]; exact a) (by rw [hs.len, ho.len]; exact b) (by rw [ho.len]; exact c)
  have HS := Lib.hid hs
  have HO := Lib.hid ho
  generalize recErr N said came = er at *
  clear hs ho hl3
  go_enter Try.func35, Try.ntmps35
  go_wp2
  go_loop [7, 8] (fun i _ => ∃ n : Nat, n ≤ k ∧ i = .int .i64 (n : Int) ∧ (∀ a, a < n → bitsB N (said.getD a []) = true)) (fun i _ => k - (intOf i).toNat)
  case atStart => exact ⟨0, by omega, rfl, fun a ha => absurd ha (by omega)⟩
  case round => as_aux_lemma =>
    obtain ⟨n, hn, rfl, hbef⟩ := hrel
    have HB := Lib.hid hbef
    clear hbef
    by_cases hlt : n < k
    · obtain ⟨b, off, rfl, B', d', hc, hi⟩ := HS.out.at_ hlt
      have hrow := Lib.hid (R1.out n hlt)
      generalize hx : said.getD n [] = x at *
      have HX := Lib.hid hx
      clear hx
      have HI := Lib.hid hi
      have hxs := hi.small
      clear hi
      by_cases hl : x.length = N
      · have hq : ((x.length : Int) != (N : Int)) = false := by simp; omega
        have HLL := Lib.hid hl
        clear hl
        go_wp2
        go_loop [8] (fun i => ∃ t : Nat, t ≤ N ∧ i = .int .i64 (t : Int) ∧ (∀ a, a < t → bitB (x.getD a 0) = true)) (fun i => N - (intOf i).toNat)
        case atStart => exact ⟨0, by omega, rfl, fun a ha => absurd ha (by omega)⟩
        case round =>
          obtain ⟨t, ht, rfl, hbef⟩ := hrel
          have HB2 := Lib.hid hbef
          clear hbef
          by_cases hlt2 : t < N
          · obtain ⟨b2, off2, rfl, hc2⟩ := HI.out.at_ (show t < x.length by rw [HLL.out]; exact hlt2)
            have hbad : Hid (bitB (x.getD t 0) = false → er = 2) := fun h => hrow.out (bitsB_bad (by rw [HLL.out]; exact hlt2) h)
            have hb1 : (t : Int) < x.length := by rw [HLL.out]; omega
            generalize hy : x.getD t 0 = y at *
            have HY := Lib.hid hy
            clear hy
            cases hbt : bitB y
            · have k54 := Lib.hid (f54_any y w)
              rw [hbt] at k54
              have hfin := Lib.hid (hbad.out hbt)
              clear hbt
              go_wp2_with fail
              refine k54.out.mono ?_
              rintro e w' ⟨rfl, rfl⟩
              go_wp2
              go_ret
              exact ⟨ret_int hfin.out.symm, rfl⟩
            · have k54 := Lib.hid (f54_any y w)
              rw [hbt] at k54
              have HT := Lib.hid hbt
              clear hbt
              go_wp2_with fail
              refine k54.out.mono ?_
              rintro e w' ⟨rfl, rfl⟩
              go_wp2
              go_round
              case rel => exact ⟨t + 1, by omega, by go_num, fun a ha => by
                rcases Nat.lt_or_ge a t with h | h
                · exact HB2.out a h
                · obtain rfl : a = t := by omega
                  rw [HY.out]; exact HT.out⟩
              case measure => simp [intOf]; omega
          · obtain rfl : t = N := by omega
            go_wp2
            go_round
            case rel => exact ⟨n + 1, by omega, by go_num, fun a ha => by
              rcases Nat.lt_or_ge a n with h | h
              · exact HB.out a h
              · obtain rfl : a = n := by omega
                rw [HX.out]; exact bitsB_mk HLL.out HB2.out⟩
            case measure => simp [intOf]; omega
      · have hq : ((x.length : Int) != (N : Int)) = true := by simp; omega
        have hfin := Lib.hid (hrow.out (by unfold bitsB; rw [decide_eq_false (by omega)]; rfl))
        clear hl
        go_wp2
        go_ret
        exact ⟨ret_int hfin.out.symm, rfl⟩
    · obtain rfl : n = k := by omega
      by_cases hmn : m = n
      · subst hmn
        go_wp2
        go_loop [9] (fun i => ∃ t : Nat, t ≤ m ∧ i = .int .i64 (t : Int) ∧ (∀ a, a < t → bitB (came.getD a 0) = true)) (fun i => m - (intOf i).toNat)
        case atStart => exact ⟨0, by omega, rfl, fun a ha => absurd ha (by omega)⟩
        case round =>
          obtain ⟨t, ht, rfl, hbef⟩ := hrel
          have HB2 := Lib.hid hbef
          clear hbef
          by_cases hlt2 : t < m
          · obtain ⟨b2, off2, rfl, hc2⟩ := HO.out.at_ hlt2
            have hbad : Hid (bitB (came.getD t 0) = false → er = 2) := fun h => R3.out t hlt2 h
            generalize hy : came.getD t 0 = y at *
            have HY := Lib.hid hy
            clear hy
            cases hbt : bitB y
            · have k54 := Lib.hid (f54_any y w)
              rw [hbt] at k54
              have hfin := Lib.hid (hbad.out hbt)
              clear hbt
              go_wp2_with fail
              refine k54.out.mono ?_
              rintro e w' ⟨rfl, rfl⟩
              go_wp2
              go_ret
              exact ⟨ret_int hfin.out.symm, rfl⟩
            · have k54 := Lib.hid (f54_any y w)
              rw [hbt] at k54
              have HT := Lib.hid hbt
              clear hbt
              go_wp2_with fail
              refine k54.out.mono ?_
              rintro e w' ⟨rfl, rfl⟩
              go_wp2
              go_round
              case rel => exact ⟨t + 1, by omega, by go_num, fun a ha => by
                rcases Nat.lt_or_ge a t with h | h
                · exact HB2.out a h
                · obtain rfl : a = t := by omega
                  rw [HY.out]; exact HT.out⟩
              case measure => simp [intOf]; omega
          · obtain rfl : t = m := by omega
            have hfin := Lib.hid (R4.out HB.out (by first | rfl | trivial) HB2.out)
            go_wp2
            go_ret
            exact ⟨ret_int hfin.out.symm, rfl⟩
      · have hq : ((m : Int) != (n : Int)) = true := by simp; omega
        have hfin := Lib.hid (R2.out hmn)
        clear hmn
        go_wp2
        go_ret
        exact ⟨ret_int hfin.out.symm, rfl⟩
/-- dibberref05.Record -/
theorem f35_any (A B : Option Addr) (n : Int) (k c m d : Nat) (said : List (List Int)) (came : List Int) (w : World) (hs : IntsS w A k said) (ho : Ints w B m came) :
    Calls Try.prog 35 #[.int .i64 n, .slice A k c, .slice B m d] w fun e w' => e = .returned (.int .i64 (recErr n said came)) ∧ w = w' := by
  have hk := hs.small
  have hm := ho.small
  by_cases h1 : n < 1
  · have hf : Hid (recErr n said came = 2) := by unfold recErr; rw [if_neg (by omega)]; rfl
    clear hs ho
    go_enter Try.func35, Try.ntmps35
    go_wp2
    go_ret
    exact ⟨ret_int hf.out.symm, rfl⟩
  by_cases h2 : 20 < n
  · have hf : Hid (recErr n said came = 2) := by unfold recErr; rw [if_neg (by omega)]; rfl
    clear hs ho
    go_enter Try.func35, Try.ntmps35
    go_wp2
    go_ret
    exact ⟨ret_int hf.out.symm, rfl⟩
  by_cases h3 : 200 < k
  · have hf : Hid (recErr n said came = 3) := by unfold recErr; rw [if_pos (by omega), if_neg (by rw [hs.len]; omega)]; rfl
    clear hs ho
    go_enter Try.func35, Try.ntmps35
    go_wp2
    go_ret
    exact ⟨ret_int hf.out.symm, rfl⟩
  obtain ⟨N, rfl⟩ := nat_of n (by omega)
  exact f35_good A B N k c m d said came w hs ho (by omega) (by omega) (by omega)
end Go.Proofs.Ytfaenbaaadjbbaa
