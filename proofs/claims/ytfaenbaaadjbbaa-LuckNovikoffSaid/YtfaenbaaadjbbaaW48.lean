/- Walks: Points. -/
import Derived.Test.YtfaenbaaadjbbaaW45
import Derived.Test.YtfaenbaaadjbbaaPlain16
namespace Go.Proofs.Ytfaenbaaadjbbaa
open Go.RowKit

/-- luck.Perceptron$1 -/
theorem f71_any (x : Int) (w : World) : Calls Try.prog 71 #[.int .i64 x] w fun e w' => e = .returned (.bool (farB x)) ∧ w = w' := by
  unfold farB
  by_cases h1 : x < -100
  · go_enter Try.func71, Try.ntmps71
    go_wp2
    go_ret
    exact ⟨ret_bool (by rw [decide_eq_true h1]; rfl), rfl⟩
  · go_enter Try.func71, Try.ntmps71
    go_wp2
    go_ret
    exact ⟨ret_bool (by rw [decide_eq_false (p := x < -100) (by omega)]; simp), rfl⟩
theorem rowOk_mk {d : Nat} {p : List Int} (h1 : p.length = d) (h2 : ∀ j, j < p.length → farB (p.getD j 0) = false) : rowOk d p = true := by
  unfold rowOk
  rw [decide_eq_true h1, Bool.true_and, Bool.not_eq_true', List.any_eq_false]
  intro x hx
  obtain ⟨j, hj, rfl⟩ := List.getElem_of_mem hx
  have := h2 j hj
  rw [show p.getD j 0 = p[j] from by simp [List.getD_eq_getElem?_getD, hj]] at this
  simp [this]
theorem rowOk_bad {d : Nat} {p : List Int} {j : Nat} (hj : j < p.length) (h : farB (p.getD j 0) = true) : rowOk d p = false := by
  unfold rowOk
  have : p.any farB = true := List.any_eq_true.2 ⟨_, List.getElem_mem hj, by rwa [show p.getD j 0 = p[j] from by simp [List.getD_eq_getElem?_getD, hj]] at h⟩
  rw [this]; simp
set_option maxRecDepth 100000 in
set_option maxHeartbeats 4000000 in
/-- dibberref05.Points -/
theorem f45_any (A B : Option Addr) (k c m d : Nat) (pts : List (List Int)) (signs : List Int) (w : World) (hs : IntsS w A k pts) (ho : Ints w B m signs) :
    Calls Try.prog 45 #[.slice A k c, .slice B m d] w fun e w' => e = .returned (.int .i64 (ptErr pts signs)) ∧ w = w' := by
  have hks := hs.small
  have hms := ho.small
  have hkl := hs.len
  have hml := ho.len
  by_cases h50 : 50 < k
  · have hf : Hid (ptErr pts signs = 3) := by unfold ptErr; rw [if_pos (by omega)]; rfl
    clear hs ho hkl hml
    go_enter Try.func45, Try.ntmps45
    go_wp2
    go_ret
    exact ⟨ret_int hf.out.symm, rfl⟩
  by_cases h0 : k = 0
  · have hf : Hid (ptErr pts signs = 2) := pts_none (by omega) (by omega)
    subst h0
    clear hs ho hkl hml
    go_enter Try.func45, Try.ntmps45
    go_wp2
    go_ret
    exact ⟨ret_int hf.out.symm, rfl⟩
  obtain ⟨b0, o0, rfl, D0, e0, hc0, hi0⟩ := hs.at_ (show 0 < k by omega)
  rw [Nat.add_zero] at hc0
  have hd0 := hi0.small
  have hk0 : (0 : Int) < (k : Int) := by omega
  have hk00 : 0 < k := by omega
  by_cases hd : 1 ≤ (pts.getD 0 []).length ∧ (pts.getD 0 []).length ≤ 6
  · have R1 : Hid (∀ i, i < k → rowOk (pts.getD 0 []).length (pts.getD i []) = false → ptErr pts signs = 2) := fun i hi h => pts_row (by omega) (by omega) h
    have R2 : Hid (m ≠ k → ptErr pts signs = 2) := fun h => pts_none (by omega) (by omega)
    have R3 : Hid (∀ i, i < m → m = k → signB (signs.getD i 0) = false → ptErr pts signs = 2) := fun i hi h1 h => pts_sign (by omega) (by omega : i < pts.length) h
    have R4 : Hid ((∀ i, i < k → rowOk (pts.getD 0 []).length (pts.getD i []) = true) → m = k → (∀ i, i < m → signB (signs.getD i 0) = true) → ptErr pts signs = 0) := fun a b c =>
      pts_good (by omega) ⟨by omega, hd.1, hd.2, by omega⟩ (fun i hi => a i (by omega)) (fun i hi => c i (by omega))
    obtain ⟨hd1, hd2⟩ := hd
    generalize (pts.getD 0 []).length = L at *
    generalize ptErr pts signs = er at *
    have HS := Lib.hid hs
    have HO := Lib.hid ho
    clear hs ho hkl hml hi0
    go_enter Try.func45, Try.ntmps45
    go_wp2
    go_loop [6, 7] (fun i _ => ∃ n : Nat, n ≤ k ∧ i = .int .i64 (n : Int) ∧ (∀ a, a < n → rowOk L (pts.getD a []) = true)) (fun i _ => k - (intOf i).toNat)
    case atStart => exact ⟨0, by omega, rfl, fun a ha => absurd ha (by omega)⟩
    case round => as_aux_lemma =>
      obtain ⟨n, hn, rfl, hbef⟩ := hrel
      have HB := Lib.hid hbef
      clear hbef
      by_cases hlt : n < k
      · obtain ⟨b, off, hA, D, e, hc, hi⟩ := HS.out.at_ hlt
        injection hA with hA
        injection hA with hA1 hA2
        subst hA1 hA2
        have hrow := Lib.hid (R1.out n hlt)
        generalize hx : pts.getD n [] = x at *
        have HX := Lib.hid hx
        clear hx
        have HI := Lib.hid hi
        have hxs := hi.small
        have hn0 : (0 : Int) ≤ (n : Int) := by omega
        have hnk : (n : Int) < (k : Int) := by omega
        clear hi
        by_cases hl : x.length = L
        · have hq : ((x.length : Int) != (L : Int)) = false := by simp; omega
          have HLL := Lib.hid hl
          clear hl
          go_wp2
          go_loop [7] (fun i => ∃ t : Nat, t ≤ L ∧ i = .int .i64 (t : Int) ∧ (∀ a, a < t → farB (x.getD a 0) = false)) (fun i => L - (intOf i).toNat)
          case atStart => exact ⟨0, by omega, rfl, fun a ha => absurd ha (by omega)⟩
          case round => as_aux_lemma =>
            obtain ⟨t, ht, rfl, hbef⟩ := hrel
            have HB2 := Lib.hid hbef
            clear hbef
            by_cases hlt2 : t < L
            · obtain ⟨b2, off2, rfl, hc2⟩ := HI.out.at_ (show t < x.length by rw [HLL.out]; exact hlt2)
              have hbad : Hid (farB (x.getD t 0) = true → er = 2) := fun h => hrow.out (rowOk_bad (by rw [HLL.out]; exact hlt2) h)
              have hb1 : (t : Int) < x.length := by rw [HLL.out]; omega
              generalize hy : x.getD t 0 = y at *
              have HY := Lib.hid hy
              have ht0 : (0 : Int) ≤ (t : Int) := by omega
              clear hy
              by_cases y1 : y < -100
              · have hfin := Lib.hid (hbad.out (by unfold farB; rw [decide_eq_true y1]; rfl))
                go_wp2
                go_ret
                exact ⟨ret_int hfin.out.symm, rfl⟩
              · by_cases y2 : 100 < y
                · have hfin := Lib.hid (hbad.out (by unfold farB; rw [decide_eq_true y2]; simp))
                  go_wp2
                  go_ret
                  exact ⟨ret_int hfin.out.symm, rfl⟩
                · have HT : Hid (farB y = false) := (farB_iff y).2 (by omega)
                  go_wp2
                  go_round
                  case rel => exact ⟨t + 1, by omega, by go_num, fun a ha => by
                    rcases Nat.lt_or_ge a t with h | h
                    · exact HB2.out a h
                    · obtain rfl : a = t := by omega
                      rw [HY.out]; exact HT.out⟩
                  case measure => simp [intOf]; omega
            · obtain rfl : t = L := by omega
              go_wp2
              go_round
              case rel => exact ⟨n + 1, by omega, by go_num, fun a ha => by
                rcases Nat.lt_or_ge a n with h | h
                · exact HB.out a h
                · obtain rfl : a = n := by omega
                  rw [HX.out]; exact rowOk_mk HLL.out (by rw [HLL.out]; exact HB2.out)⟩
              case measure => simp [intOf]; omega
        · have hq : ((x.length : Int) != (L : Int)) = true := by simp; omega
          have hfin := Lib.hid (hrow.out (by unfold rowOk; rw [decide_eq_false hl]; rfl))
          clear hl
          go_wp2
          go_ret
          exact ⟨ret_int hfin.out.symm, rfl⟩
      · obtain rfl : n = k := by omega
        by_cases hmn : m = n
        · subst hmn
          go_wp2
          go_loop [8] (fun i => ∃ t : Nat, t ≤ m ∧ i = .int .i64 (t : Int) ∧ (∀ a, a < t → signB (signs.getD a 0) = true)) (fun i => m - (intOf i).toNat)
          case atStart => exact ⟨0, by omega, rfl, fun a ha => absurd ha (by omega)⟩
          case round => as_aux_lemma =>
            obtain ⟨t, ht, rfl, hbef⟩ := hrel
            have HB2 := Lib.hid hbef
            clear hbef
            by_cases hlt2 : t < m
            · obtain ⟨b2, off2, rfl, hc2⟩ := HO.out.at_ hlt2
              have hbad : Hid (signB (signs.getD t 0) = false → er = 2) := fun h => R3.out t hlt2 (by first | rfl | trivial) h
              generalize hy : signs.getD t 0 = y at *
              have HY := Lib.hid hy
              have ht0 : (0 : Int) ≤ (t : Int) := by omega
              have htm : (t : Int) < (m : Int) := by omega
              clear hy
              by_cases y1 : y = 1
              · have HT : Hid (signB y = true) := (signB_iff y).2 (.inl y1)
                have hq1 : (y != 1) = false := by simpa using y1
                clear y1
                go_wp2
                go_round
                case rel => exact ⟨t + 1, by omega, by go_num, fun a ha => by
                  rcases Nat.lt_or_ge a t with h | h
                  · exact HB2.out a h
                  · obtain rfl : a = t := by omega
                    rw [HY.out]; exact HT.out⟩
                case measure => simp [intOf]; omega
              · have hq1 : (y != 1) = true := by simpa using y1
                by_cases y2 : y = -1
                · have HT : Hid (signB y = true) := (signB_iff y).2 (.inr y2)
                  have hq2 : (y != -1) = false := by simpa using y2
                  clear y1 y2
                  go_wp2
                  go_round
                  case rel => exact ⟨t + 1, by omega, by go_num, fun a ha => by
                    rcases Nat.lt_or_ge a t with h | h
                    · exact HB2.out a h
                    · obtain rfl : a = t := by omega
                      rw [HY.out]; exact HT.out⟩
                  case measure => simp [intOf]; omega
                · have hq2 : (y != -1) = true := by simpa using y2
                  have hfin := Lib.hid (hbad.out (by
                    cases h : signB y
                    · rfl
                    · rcases (signB_iff y).1 h with h2 | h2
                      · exact absurd h2 y1
                      · exact absurd h2 y2))
                  clear y1 y2
                  go_wp2
                  go_ret
                  exact ⟨ret_int hfin.out.symm, rfl⟩
            · obtain rfl : t = m := by omega
              have hfin := Lib.hid (R4.out HB.out (by first | rfl | trivial) HB2.out)
              go_wp2
              go_ret
              exact ⟨ret_int hfin.out.symm, rfl⟩
        · have hq : ((m : Int) != (n : Int)) = true := by simp; omega
          have hfin := Lib.hid (R2.out hmn)
          clear hmn
          go_wp2
          go_ret
          exact ⟨ret_int hfin.out.symm, rfl⟩
  · have hf : Hid (ptErr pts signs = 2) := pts_none (by omega) (by omega)
    generalize (pts.getD 0 []).length = L at *
    by_cases hd1 : L < 1
    · clear hs ho hkl hml hi0 hd
      go_enter Try.func45, Try.ntmps45
      go_wp2
      go_ret
      exact ⟨ret_int hf.out.symm, rfl⟩
    · have hd2 : 6 < L := by omega
      clear hs ho hkl hml hi0 hd
      go_enter Try.func45, Try.ntmps45
      go_wp2
      go_ret
      exact ⟨ret_int hf.out.symm, rfl⟩
end Go.Proofs.Ytfaenbaaadjbbaa
