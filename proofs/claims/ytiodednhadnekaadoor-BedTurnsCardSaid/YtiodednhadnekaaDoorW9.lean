/- Walks: the filler: narrowest, homeless. -/
import Derived.Test.YtiodednhadnekaaDoorW8
namespace Go.Proofs.YtiodednhadnekaaDoor
open Go.RowKit Go.Deep

section
variable {w w' : World} {p n : Nat} {b : List (List Int)}
theorem FilB.drewN (h : FilB w p n b) (k : Nat) : FilB (w.drewN k) p n b := h
theorem FilB.below (h : FilB w p n b) {B : Nat} (hb : Below B w w') (hp : p < B) : FilB w' p n b := Fil.below h hb hp
theorem FilB.n0 (h : FilB w p n b) : w.cell? ⟨p, 0, none⟩ = some (.int .i64 (n : Int)) := Fil.at0 h
theorem FilB.at_ (h : FilB w p n b) (hn : n ≤ 7) {r c : Nat} (hr : r < n) (hc : c < n) : w.cell? ⟨p, 1 + r * 7 + c, none⟩ = some (.int .i64 (gAt b r c)) := by
  have := Fil.at_ h (show r < 7 by omega) (show c < 7 by omega)
  unfold atF at this
  rw [if_pos ⟨hr, hc⟩] at this
  exact this
theorem FilB.row (h : FilB w p n b) (hn : n ≤ 7) {r : Nat} (hr : r < n) : w.cell? ⟨p, 50 + r, none⟩ = some (.int .i64 (rowM n b r : Int)) := by
  have := Fil.row h (show r < 7 by omega)
  unfold rowF at this
  rw [if_pos hr] at this
  exact this
theorem FilB.col (h : FilB w p n b) (hn : n ≤ 7) {c : Nat} (hc : c < n) : w.cell? ⟨p, 57 + c, none⟩ = some (.int .i64 (colM n b c : Int)) := by
  have := Fil.col h (show c < 7 by omega)
  unfold colF at this
  rw [if_pos hc] at this
  exact this
end
theorem pop_le {n : Nat} (hn : n ≤ 7) (b : List (List Int)) (r c : Nat) : popN (openM n b r c) ≤ n := by
  unfold popN
  rw [bits_open hn]
  unfold crops
  exact Nat.le_trans (List.length_filter_le _ _) (by simp)
theorem two_pow_128 {n : Nat} (hn : n ≤ 7) : 2 ^ n ≤ 128 := Nat.le_trans (Nat.pow_le_pow_right (by omega) hn) (by decide)
/-- What narrowest returns. -/
def Nar (n : Nat) (b : List (List Int)) (e : Ending) : Prop :=
  (∃ r c : Nat, r < n ∧ c < n ∧ gAt b r c < 0 ∧ e = .returned (.tuple #[.int .i64 (r : Int), .int .i64 (c : Int), .bool true])) ∨ ((∀ r c, r < n → c < n → 0 ≤ gAt b r c) ∧ ∃ x y : Int, e = .returned (.tuple #[.int .i64 x, .int .i64 y, .bool false]))
/-- The state of the search. -/
def NarS (n : Nat) (b : List (List Int)) (i j ro co le : Nat) : Prop :=
  (le = n + 1 ∧ ∀ r c, r < n → c < n → (r < i ∨ (r = i ∧ c < j)) → 0 ≤ gAt b r c) ∨ (le ≤ n ∧ ro < n ∧ co < n ∧ gAt b ro co < 0)
def NarE (n : Nat) (b : List (List Int)) (w : World) (e : Ending) (w' : World) : Prop := Nar n b e ∧ ∃ q, w' = w.drewN q
set_option maxRecDepth 100000 in
set_option maxHeartbeats 2000000 in
/-- (*filler).narrowest -/
theorem f81_any (p n : Nat) (b : List (List Int)) (w : World) (hf : FilB w p n b) (hb : IsBed n b) (hn : n ≤ 7) :
    Calls Tryd.prog 81 #[.pointer (some ⟨p, 0, none⟩)] w (NarE n b w) := by
  have h0 := hf.n0
  have HF := Lib.hid hf
  have HB := Lib.hid hb
  clear hf hb
  go_enter Tryd.func81, Tryd.ntmps81
  go_wp2
  go_quiet (fail)
  go_wp2
  go_loopw [5, 6, 7, 20] (fun a c d i wr => ∃ i' ro co le : Nat, i' ≤ n ∧ i = .int .i64 (i' : Int) ∧ a = .int .i64 (ro : Int) ∧ c = .int .i64 (co : Int) ∧ d = .int .i64 (le : Int) ∧ le ≤ n + 1 ∧ Hid (NarS n b i' 0 ro co le) ∧ ∃ q, wr = w.drewN q) (fun _ _ _ i _ => n - (intOf i).toNat)
  case atStart => exact ⟨0, 0, 0, n + 1, by omega, rfl, rfl, rfl, by go_num, by omega, .inl ⟨rfl, fun r c _ _ h => by omega⟩, _, rfl⟩
  case round => as_aux_lemma =>
    obtain ⟨i, ro, co, le, hi, rfl, rfl, rfl, rfl, hle, hst, q, rfl⟩ := hrel
    have h0 : (w.drewN q).cell? ⟨p, 0, none⟩ = some (.int .i64 (n : Int)) := h0
    by_cases hlt : i < n
    · go_wp2
      go_loopw [5, 6, 7, 27] (fun a c d k wr => ∃ k' ro co le : Nat, k' ≤ n ∧ k = .int .i64 (k' : Int) ∧ a = .int .i64 (ro : Int) ∧ c = .int .i64 (co : Int) ∧ d = .int .i64 (le : Int) ∧ le ≤ n + 1 ∧ Hid (NarS n b i k' ro co le) ∧ ∃ q, wr = w.drewN q) (fun _ _ _ k _ => n - (intOf k).toNat)
      case atStart => exact ⟨0, ro, co, le, by omega, rfl, rfl, rfl, rfl, hle, hst, _, rfl⟩
      case round => as_aux_lemma =>
        obtain ⟨k, ro, co, le, hk, rfl, rfl, rfl, rfl, hle, hst, q2, rfl⟩ := hrel
        by_cases hlk : k < n
        · have hc := (HF.out.drewN q2).at_ hn hlt hlk
          have K56 := Lib.hid (f56_any p n i k b (w.drewN q2) (HF.out.drewN q2) HB.out hn hlt hlk)
          have hpop := pop_le hn b i k
          have hol := openM_lt n b i k
          have h128 := two_pow_128 hn
          have K101 : Hid (∀ W : World, Calls Tryd.prog 101 #[.int .u64 (openM n b i k : Int)] W fun e w' => e = .returned (.int .i64 (popN (openM n b i k) : Int)) ∧ W = w') := fun W => f101_any _ W (by omega)
          have HS1 : Hid (0 ≤ gAt b i k → NarS n b i (k + 1) ro co le) := fun h => by
            rcases hst.out with ⟨h1, h2⟩ | h1
            · refine .inl ⟨h1, fun r c hr hc1 hh => ?_⟩
              rcases hh with hh | ⟨rfl, hh⟩
              · exact h2 r c hr hc1 (.inl hh)
              · rcases Nat.lt_or_ge c k with h3 | h3
                · exact h2 r c hr hc1 (.inr ⟨rfl, h3⟩)
                · obtain rfl : c = k := by omega
                  exact h
            · exact .inr h1
          have HS2 : Hid (gAt b i k < 0 → ¬ popN (openM n b i k) < le → NarS n b i (k + 1) ro co le) := fun h h2 => by
            rcases hst.out with ⟨h1, _⟩ | h1
            · omega
            · exact .inr h1
          have HS3 : Hid (gAt b i k < 0 → NarS n b i (k + 1) i k (popN (openM n b i k))) := fun h => .inr ⟨hpop, hlt, hlk, h⟩
          have i0 : (0 : Int) ≤ (i : Int) := by omega
          have i7 : (i : Int) < 7 := by omega
          have k0 : (0 : Int) ≤ (k : Int) := by omega
          have k7 : (k : Int) < 7 := by omega
          generalize popN (openM n b i k) = P at *
          generalize openM n b i k = M at *
          generalize gAt b i k = g at *
          clear hst
          by_cases hg : g < 0
          · have HS2 := Lib.hid (HS2.out hg)
            have HS3 := Lib.hid (HS3.out hg)
            clear HS1
            go_wp2_with fail
            refine K56.out.mono ?_
            rintro e w1 ⟨rfl, q3, rfl⟩
            go_wp2_with fail
            refine (K101.out _).mono ?_
            rintro e w1 ⟨rfl, rfl⟩
            by_cases hp : P < le
            · go_wp2
              go_roundw
              case rel => exact ⟨k + 1, i, k, P, by omega, by go_num, rfl, rfl, rfl, by omega, HS3.out, by first | exact ⟨_, rfl⟩ | exact ⟨_, World.drewN_drewN _ _ _⟩⟩
              case measure => simp [intOf]; omega
            · have HS2 := Lib.hid (HS2.out hp)
              go_wp2
              go_roundw
              case rel => exact ⟨k + 1, ro, co, le, by omega, by go_num, rfl, rfl, rfl, hle, HS2.out, by first | exact ⟨_, rfl⟩ | exact ⟨_, World.drewN_drewN _ _ _⟩⟩
              case measure => simp [intOf]; omega
          · have HS1 := Lib.hid (HS1.out (by omega))
            clear HS2 HS3 K56 K101
            go_wp2
            go_roundw
            case rel => exact ⟨k + 1, ro, co, le, by omega, by go_num, rfl, rfl, rfl, hle, HS1.out, _, rfl⟩
            case measure => simp [intOf]; omega
        · obtain rfl : k = n := by omega
          have HS : Hid (NarS k b (i + 1) 0 ro co le) := by
            rcases hst.out with ⟨h1, h2⟩ | h1
            · refine .inl ⟨h1, fun r c hr hc hh => ?_⟩
              rcases hh with hh | ⟨_, hh⟩
              · rcases Nat.lt_or_ge r i with h3 | h3
                · exact h2 r c hr hc (.inl h3)
                · exact h2 r c hr hc (.inr ⟨by omega, hc⟩)
              · omega
            · exact .inr h1
          clear hst
          go_wp2
          go_roundw
          case rel => exact ⟨i + 1, ro, co, le, by omega, by go_num, rfl, rfl, rfl, hle, HS.out, _, rfl⟩
          case measure => simp [intOf]; omega
    · obtain rfl : i = n := by omega
      by_cases hl : le ≤ i
      · have HE : Hid (ro < i ∧ co < i ∧ gAt b ro co < 0) := by
          rcases hst.out with ⟨h1, _⟩ | h1
          · omega
          · exact h1.2
        clear hst
        go_wp2
        go_quiet (fail)
        go_wp2
        go_ret3
        exact ⟨.inl ⟨ro, co, HE.out.1, HE.out.2.1, HE.out.2.2, rfl⟩, by first | exact ⟨_, rfl⟩ | exact ⟨_, World.drewN_drewN _ _ _⟩⟩
      · have HE : Hid (∀ r c, r < i → c < i → 0 ≤ gAt b r c) := by
          rcases hst.out with ⟨_, h2⟩ | h1
          · exact fun r c hr hc => h2 r c hr hc (.inl hr)
          · omega
        clear hst
        have hq : decide ((le : Int) ≤ (i : Int)) = false := decide_eq_false (by omega)
        go_wp2
        go_quiet (fail)
        go_wp2
        go_ret3
        exact ⟨.inr ⟨HE.out, _, _, rfl⟩, by first | exact ⟨_, rfl⟩ | exact ⟨_, World.drewN_drewN _ _ _⟩⟩
theorem homeR_succ (n : Nat) (b : List (List Int)) (i k : Nat) : homeR n b i (k + 1) = homeR n b i k ||| (if gAt b i k < 0 then openM n b i k else 0) := by
  unfold homeR; rw [orN, Nat.or_assoc]
theorem homeC_succ (n : Nat) (b : List (List Int)) (i k : Nat) : homeC n b i (k + 1) = homeC n b i k ||| (if gAt b k i < 0 then openM n b k i else 0) := by
  unfold homeC; rw [orN, Nat.or_assoc]
theorem homeR_zero (n : Nat) (b : List (List Int)) (i : Nat) : homeR n b i 0 = rowM n b i := by unfold homeR; rw [orN, Nat.or_zero]
theorem homeC_zero (n : Nat) (b : List (List Int)) (i : Nat) : homeC n b i 0 = colM n b i := by unfold homeC; rw [orN, Nat.or_zero]
theorem homeless_hit {n : Nat} {b : List (List Int)} {i : Nat} (hi : i < n) (h : homeR n b i n ≠ 2 ^ n - 1 ∨ homeC n b i n ≠ 2 ^ n - 1) : homeless n b = true := by
  unfold homeless
  rw [List.any_eq_true]
  refine ⟨i, List.mem_range.2 hi, ?_⟩
  simpa using h
theorem homeless_miss {n : Nat} {b : List (List Int)} (h : ∀ i, i < n → homeR n b i n = 2 ^ n - 1 ∧ homeC n b i n = 2 ^ n - 1) : homeless n b = false := by
  unfold homeless
  rw [List.any_eq_false]
  intro i hi
  obtain ⟨h1, h2⟩ := h i (List.mem_range.1 hi)
  simp [h1, h2]
set_option maxRecDepth 100000 in
set_option maxHeartbeats 4000000 in
/-- (*filler).homeless -/
theorem f88_any (p n : Nat) (b : List (List Int)) (w : World) (hf : FilB w p n b) (hb : IsBed n b) (hn : n ≤ 7) :
    Calls Tryd.prog 88 #[.pointer (some ⟨p, 0, none⟩)] w fun e w' => e = .returned (.bool (homeless n b)) ∧ ∃ q, w' = w.drewN q := by
  have h0 := hf.n0
  have HF := Lib.hid hf
  have HB := Lib.hid hb
  have h128 := two_pow_128 hn
  obtain ⟨N, hN, hshl⟩ := shl_one n (by omega)
  rw [← hN] at h128
  have hN1 : 1 ≤ N := by rw [hN]; exact Nat.two_pow_pos n
  have HN := Lib.hid hN
  clear hf hb hN
  go_enter Tryd.func88, Tryd.ntmps88
  go_wp2
  go_loopw [11] (fun i wr => ∃ i' : Nat, i' ≤ n ∧ i = .int .i64 (i' : Int) ∧ Hid (∀ j, j < i' → homeR n b j n = 2 ^ n - 1 ∧ homeC n b j n = 2 ^ n - 1) ∧ ∃ q, wr = w.drewN q) (fun i _ => n - (intOf i).toNat)
  case atStart => exact ⟨0, by omega, rfl, fun j hj => absurd hj (by omega), 0, rfl⟩
  case round => as_aux_lemma =>
    obtain ⟨i, hi, rfl, hst, q, rfl⟩ := hrel
    have h0 : (w.drewN q).cell? ⟨p, 0, none⟩ = some (.int .i64 (n : Int)) := h0
    by_cases hlt : i < n
    · have hc1 := HF.out.row hn hlt
      have hc2 := HF.out.col hn hlt
      have i0 : (0 : Int) ≤ (i : Int) := by omega
      have i7 : (i : Int) < 7 := by omega
      have HR0 := Lib.hid (homeR_zero n b i)
      have HC0 := Lib.hid (homeC_zero n b i)
      generalize rowM n b i = R at *
      generalize colM n b i = C at *
      go_wp2
      go_quiet (fail)
      go_wp2
      go_loopw [4, 5, 30] (fun a c k wr => ∃ k' : Nat, k' ≤ n ∧ k = .int .i64 (k' : Int) ∧ a = .int .i64 (homeR n b i k' : Int) ∧ c = .int .i64 (homeC n b i k' : Int) ∧ ∃ q, wr = w.drewN q) (fun _ _ k _ => n - (intOf k).toNat)
      case atStart => exact ⟨0, by omega, rfl, by rw [HR0.out], by rw [HC0.out], by first | exact ⟨_, rfl⟩ | exact ⟨_, World.drewN_drewN _ _ _⟩⟩
      case round => as_aux_lemma =>
        obtain ⟨k, hk, rfl, rfl, rfl, q2, rfl⟩ := hrel
        have hR128 := homeR_lt HB.out hlt k
        have hC128 := homeC_lt HB.out hlt k
        rw [← HN.out] at hR128 hC128
        by_cases hlk : k < n
        · have hc := (HF.out.drewN q2).at_ hn hlt hlk
          have hd := HF.out.at_ hn hlk hlt
          have K56 : Hid (∀ z, Calls Tryd.prog 56 #[.pointer (some ⟨p, 0, none⟩), .int .i64 (i : Int), .int .i64 (k : Int)] (w.drewN z) fun e w' => e = .returned (.int .i64 (openM n b i k : Int)) ∧ ∃ q, w' = (w.drewN z).drewN q) := fun z => f56_any p n i k b (w.drewN z) (HF.out.drewN z) HB.out hn hlt hlk
          have K57 : Hid (∀ z, Calls Tryd.prog 56 #[.pointer (some ⟨p, 0, none⟩), .int .i64 (k : Int), .int .i64 (i : Int)] (w.drewN z) fun e w' => e = .returned (.int .i64 (openM n b k i : Int)) ∧ ∃ q, w' = (w.drewN z).drewN q) := fun z => f56_any p n k i b (w.drewN z) (HF.out.drewN z) HB.out hn hlk hlt
          have ho1 := openM_lt n b i k
          have ho2 := openM_lt n b k i
          rw [← HN.out] at ho1 ho2
          have hb1 := bits_or_nat (homeR n b i k) (openM n b i k) (by omega) (by omega)
          have hb2 := bits_or_nat (homeC n b i k) (openM n b k i) (by omega) (by omega)
          have HR1 := Lib.hid (homeR_succ n b i k)
          have HC1 := Lib.hid (homeC_succ n b i k)
          have k0 : (0 : Int) ≤ (k : Int) := by omega
          have k7 : (k : Int) < 7 := by omega
          generalize openM n b i k = M at *
          generalize openM n b k i = M2 at *
          generalize gAt b i k = g at *
          generalize gAt b k i = g2 at *
          generalize homeR n b i k = H at *
          generalize homeC n b i k = J at *
          by_cases hg : g < 0
          · have HR2 : Hid (homeR n b i (k + 1) = H ||| M) := by rw [HR1.out, if_pos hg]; rfl
            go_wp2_with fail
            refine (K56.out _).mono ?_
            rintro e w1 ⟨rfl, q3, rfl⟩
            by_cases hg2 : g2 < 0
            · have HC2 : Hid (homeC n b i (k + 1) = J ||| M2) := by rw [HC1.out, if_pos hg2]; rfl
              rw [World.drewN_drewN]
              go_wp2_with fail
              refine (K57.out _).mono ?_
              rintro e w1 ⟨rfl, q4, rfl⟩
              go_wp2
              go_roundw
              case rel => exact ⟨k + 1, by omega, by go_num, by rw [HR2.out], by rw [HC2.out], by first | exact ⟨_, rfl⟩ | exact ⟨_, World.drewN_drewN _ _ _⟩⟩
              case measure => simp [intOf]; omega
            · have HC2 : Hid (homeC n b i (k + 1) = J) := by rw [HC1.out, if_neg hg2, Nat.or_zero]; rfl
              go_wp2
              go_roundw
              case rel => exact ⟨k + 1, by omega, by go_num, by rw [HR2.out], by rw [HC2.out], by first | exact ⟨_, rfl⟩ | exact ⟨_, World.drewN_drewN _ _ _⟩⟩
              case measure => simp [intOf]; omega
          · have HR2 : Hid (homeR n b i (k + 1) = H) := by rw [HR1.out, if_neg hg, Nat.or_zero]; rfl
            by_cases hg2 : g2 < 0
            · have HC2 : Hid (homeC n b i (k + 1) = J ||| M2) := by rw [HC1.out, if_pos hg2]; rfl
              go_wp2_with fail
              refine (K57.out _).mono ?_
              rintro e w1 ⟨rfl, q4, rfl⟩
              go_wp2
              go_roundw
              case rel => exact ⟨k + 1, by omega, by go_num, by rw [HR2.out], by rw [HC2.out], by first | exact ⟨_, rfl⟩ | exact ⟨_, World.drewN_drewN _ _ _⟩⟩
              case measure => simp [intOf]; omega
            · have HC2 : Hid (homeC n b i (k + 1) = J) := by rw [HC1.out, if_neg hg2, Nat.or_zero]; rfl
              go_wp2
              go_roundw
              case rel => exact ⟨k + 1, by omega, by go_num, by rw [HR2.out], by rw [HC2.out], _, rfl⟩
              case measure => simp [intOf]; omega
        · obtain rfl : k = n := by omega
          have HIT := Lib.hid (homeless_hit (b := b) hlt)
          have HST : Hid (homeR k b i k = N - 1 → homeC k b i k = N - 1 → ∀ j, j < i + 1 → homeR k b j k = 2 ^ k - 1 ∧ homeC k b j k = 2 ^ k - 1) := fun h1 h2 j hj => by
            rcases Nat.lt_or_ge j i with h3 | h3
            · exact hst.out j h3
            · obtain rfl : j = i := by omega
              rw [← HN.out]; exact ⟨h1, h2⟩
          rw [← HN.out] at HIT
          have h0 : (w.drewN q2).cell? ⟨p, 0, none⟩ = some (.int .i64 (k : Int)) := h0
          generalize homeR k b i k = H at *
          generalize homeC k b i k = J at *
          clear hst
          by_cases hH : H = N - 1
          · have hq : ((H : Int) != (N : Int) - 1) = false := by simp; omega
            by_cases hJ : J = N - 1
            · have hq2 : ((J : Int) != (N : Int) - 1) = false := by simp; omega
              have HS := Lib.hid (HST.out hH hJ)
              clear hH hJ
              go_wp2
              go_roundw
              case rel => exact ⟨i + 1, by omega, by go_num, HS.out, _, rfl⟩
              case measure => simp [intOf]; omega
            · have hq2 : ((J : Int) != (N : Int) - 1) = true := by simp; omega
              have HT := Lib.hid (HIT.out (.inr hJ))
              clear hH hJ
              go_wp2
              go_ret
              exact ⟨ret_bool HT.out.symm, _, rfl⟩
          · have hq : ((H : Int) != (N : Int) - 1) = true := by simp; omega
            have HT := Lib.hid (HIT.out (.inl hH))
            clear hH
            go_wp2
            go_ret
            exact ⟨ret_bool HT.out.symm, _, rfl⟩
    · obtain rfl : i = n := by omega
      have HT := Lib.hid (homeless_miss hst.out)
      clear hst
      go_wp2
      go_ret
      exact ⟨ret_bool HT.out.symm, _, rfl⟩
end Go.Proofs.YtiodednhadnekaaDoor
