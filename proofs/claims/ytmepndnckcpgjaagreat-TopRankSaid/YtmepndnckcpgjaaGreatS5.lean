/- Walk: ranked. -/
import Derived.Test.YtmepndnckcpgjaaGreatS4
import Derived.Test.YtmepndnckcpgjaaGreatW31
namespace Go.Proofs.YtmepndnckcpgjaaGreat
open Go.RowKit
def rawL (n : Int) (fs : List (Int × Int)) (k : Nat) : List Int := (List.range k).map fun S => n - grR n (cho fs S)
theorem rawL_succ (n : Int) (fs : List (Int × Int)) (k : Nat) : rawL n fs (k + 1) = rawL n fs k ++ [n - grR n (cho fs k)] := by simp [rawL, List.range_succ]
theorem rawL_len (n : Int) (fs : List (Int × Int)) (k : Nat) : (rawL n fs k).length = k := by simp [rawL]
theorem grR_in {n : Int} {fs : List (Int × Int)} (h : garE n fs = 0) : -100 ≤ n - grR n fs ∧ n - grR n fs ≤ 100 := by
  obtain ⟨n, rfl⟩ := garE_pos h
  obtain ⟨h1, h2, h3, _⟩ := garE_facts h
  have := gSt_in n fs (allM fs.length) fs.length
  unfold grR groupsN
  rw [if_pos h, Int.toNat_natCast]
  omega
theorem rawL_rk {n : Nat} {fs : List (Int × Int)} (h : garE n fs = 0) : rawL n fs (2 ^ fs.length) = rkL n fs := by
  unfold rawL rkL
  refine List.map_congr_left fun S _ => ?_
  unfold grR rk
  rw [if_pos (cho_gar h S), Int.toNat_natCast, groups_cho h S]
/-- What ranked says. -/
def Ranked (n : Int) (m : Nat) (fs : List (Int × Int)) (w : World) (A : Option Addr) (k c : Nat) : Prop :=
  (1 ≤ m ∧ m ≤ 6 ∧ garE n fs = 0 ∧ k = 2 ^ m ∧ (∃ a, A = some a) ∧ Ints w A (2 ^ m) (rkL n.toNat fs)) ∨ (¬ (1 ≤ m ∧ m ≤ 6 ∧ garE n fs = 0) ∧ A = none ∧ k = 0 ∧ c = 0)
set_option maxRecDepth 100000 in
set_option maxHeartbeats 8000000 in
/-- dibbertop.ranked -/
theorem f6_any (n : Int) (A : Option Addr) (m c : Nat) (fs : List (Int × Int)) (w : World) (hs : Fens w A m fs) (hsm : m ≤ 9223372036854775807) :
    Calls Tryz.prog 6 #[.int .i64 n, .slice A m c] w fun e w' => ∃ A' k' c', e = .returned (.slice A' k' c') ∧ Ranked n m fs w' A' k' c' ∧ Below w.heap.size w w' := by
  have HS := Lib.hid hs
  have HL := Lib.hid hs.len
  clear hs
  by_cases h1 : m < 1
  · have h1i : (m : Int) < 1 := by omega
    go_enter Tryz.func6, Tryz.ntmps6
    go_wp2
    go_ret
    exact ⟨none, 0, 0, rfl, .inr ⟨by omega, rfl, rfl, rfl⟩, Below.refl _ _⟩
  by_cases h6 : 6 < m
  · have h1i : ¬ (m : Int) < 1 := by omega
    have h6i : (6 : Int) < (m : Int) := by omega
    go_enter Tryz.func6, Tryz.ntmps6
    go_wp2
    go_ret
    exact ⟨none, 0, 0, rfl, .inr ⟨by omega, rfl, rfl, rfl⟩, Below.refl _ _⟩
  have h1i : ¬ (m : Int) < 1 := by omega
  have h6i : ¬ (6 : Int) < (m : Int) := by omega
  obtain ⟨N, hN, hshl⟩ := shl_one m (by omega)
  have hN1 : 1 ≤ N := by rw [hN]; exact Nat.two_pow_pos m
  have hN64 : N ≤ 64 := by rw [hN]; exact Nat.le_trans (Nat.pow_le_pow_right (by omega) (show m ≤ 6 by omega)) (by decide)
  have HN := Lib.hid hN
  have H0 : Hid (rawL n fs 0 = []) := Lib.hid rfl
  have HRS := Lib.hid (rawL_succ n fs)
  have HRL := Lib.hid (rawL_len n fs)
  clear hN
  go_enter Tryz.func6, Tryz.ntmps6
  go_wp2
  go_loopw [5, 6] (fun vi ii wr => ∃ (k : Nat) (v : Value), k ≤ N ∧ ii = .int .i64 (k : Int) ∧ v = vi ∧ Hid (Row wr w.heap.size v (rawL n fs k)) ∧ Hid (∀ j, j < k → garE n (cho fs j) = 0) ∧ Hid (Below w.heap.size w wr)) (fun _ ii _ => N - (intOf ii).toNat)
  case atStart => exact ⟨0, _, by omega, rfl, rfl, Lib.hid (by rw [H0.out]; exact Row.nil _ _), Lib.hid fun j hj => absurd hj (by omega), Lib.hid (Below.refl _ _)⟩
  case round => as_aux_lemma =>
    obtain ⟨k, v5, hk, rfl, rfl, HR, HG, HB⟩ := hrel
    by_cases hkn : k < N
    · have k0 : (0 : Int) ≤ (k : Int) := by omega
      have kn : (k : Int) < (N : Int) := by omega
      have HRS1 := Lib.hid (HRS.out k)
      have hrl := HRL.out k
      have hcl := choTo_len fs k fs.length
      have HGE : Hid (garE n (cho fs k) = 0 → ∀ j, j < k + 1 → garE n (cho fs j) = 0) := Lib.hid fun h j hj => by
        rcases Nat.lt_or_ge j k with h2 | h2
        · exact HG.out j h2
        · obtain rfl : j = k := by omega
          exact h
      have HNO : Hid (garE n fs = 0 → garE n (cho fs k) = 0) := Lib.hid fun h => by
        obtain ⟨n', rfl⟩ := garE_pos h
        exact cho_gar h k
      have hin : garE n (cho fs k) = 0 → _ := grR_in (n := n) (fs := cho fs k)
      have K12 := Lib.hid (f12_any A m c fs k wr (HS.out.below HB.out) (by omega))
      have K11 := Lib.hid fun A' c' W hF => f11_any n A' (cho fs k).length c' (cho fs k) W (fun _ => hF) rfl (by unfold cho; have := HL.out; omega)
      generalize cho fs k = ch at *
      clear hcl
      go_wp2_with fail
      refine K12.out.mono ?_
      rintro e w1 ⟨A1, c1, rfl, hF, hb⟩
      have HB1 := Lib.hid (below_step HB.out hb)
      have HR1 := Lib.hid (Row.below' HR.out hb)
      have K11b := Lib.hid (K11.out A1 c1 w1 hF)
      clear hF hb K11
      go_wp2_with fail
      refine K11b.out.mono ?_
      rintro e w2 ⟨rfl, hb⟩
      have HB2 := Lib.hid (below_step HB1.out hb)
      have HR2 := Lib.hid (Row.below' HR1.out hb)
      have hbz := HB2.out.size
      clear hb
      by_cases hE : garE n ch = 0
      · have hin2 := hin hE
        have HG2 := Lib.hid (HGE.out hE)
        have hw1 : IntKind.i64.wrap (n - grR n ch) = n - grR n ch := IntWalk.i64_in _ (by omega)
        have hrow := HR2.out.alloc (.cells #[.int .i64 (n - grR n ch)] 3)
        have HROW := Lib.hid hrow
        have ba := below_alloc w2 (.cells #[.int .i64 (n - grR n ch)] 3)
        have HB3 := Lib.hid (below_step HB2.out ba)
        have hbz2 := HB3.out.size
        have hc : (w2.alloc (.cells #[.int .i64 (n - grR n ch)] 3)).cell? ⟨w2.heap.size, 0, none⟩ = some (.int .i64 (n - grR n ch)) := (cell_new w2 _ 3 0).trans rfl
        have hl : (rawL n fs k).length ≤ 1000000 := by omega
        rw [hE]
        clear hin hin2 ba HGE HNO hE
        generalize rawL n fs k = rl at *
        go_wp2_with (first | refine wpList_push rfl (.tmp 34) (.tmp 38) rfl w.heap.size _ rl rfl hrow w2.heap.size 1 (n - grR n ch) rfl hc hl hbz2 ?_)
        rintro v' w' hv' hg
        have HV3 := Lib.hid hv'
        have HB4 := Lib.hid (below_grown HB3.out hg hbz2 HROW.out (Nat.le_refl _))
        clear hv' hg hrow hc
        go_wp2
        go_roundw
        case rel => exact ⟨k + 1, _, by omega, by go_num, rfl, Lib.hid (by rw [HRS1.out]; exact HV3.out), HG2, HB4⟩
        case measure => simp [intOf]; omega
      · have hq : (garE n ch != 0) = true := by simpa using hE
        have hq2 : (garE n ch == 0) = false := by simpa using hE
        have HNN : Hid (¬ (1 ≤ m ∧ m ≤ 6 ∧ garE n fs = 0)) := Lib.hid fun h => hE (HNO.out h.2.2)
        clear hin HGE HNO hE
        generalize garE n ch = E at *
        go_wp2
        go_ret
        exact ⟨none, 0, 0, rfl, .inr ⟨HNN.out, rfl, rfl, rfl⟩, HB2.out⟩
    · obtain rfl : k = N := by omega
      have hl := HL.out
      have hgar : garE n fs = 0 := by
        have := HG.out (allM fs.length) (by rw [HN.out, hl]; unfold allM; have := Nat.two_pow_pos m; omega)
        rwa [cho_all] at this
      obtain ⟨g, c', rfl, _⟩ := Row.head HR.out (by rw [HRL.out]; omega)
      have hints : Ints wr (some ⟨g, 0, none⟩) (2 ^ m) (rkL n.toNat fs) := by
        obtain ⟨A2, c2, e2, hi⟩ := Row.form HR.out
        injection e2 with e3 e4 e5
        have := hi 100 (by rw [HRL.out]; omega) (by omega)
        rw [← e3] at this
        obtain ⟨n', rfl⟩ := garE_pos hgar
        have e6 : rawL (n' : Int) fs k = rkL n' fs := by rw [HN.out, ← hl]; exact rawL_rk hgar
        rw [e6, rkL_len, hl] at this
        rw [Int.toNat_natCast]
        exact this
      have HI := Lib.hid hints
      have hrl := HRL.out k
      clear hints hgar
      go_wp2
      go_ret
      exact ⟨some ⟨g, 0, none⟩, _, c', rfl, .inl ⟨by omega, by omega, by have := HG.out (allM fs.length) (by rw [HN.out, hl]; unfold allM; have := Nat.two_pow_pos m; omega); rwa [cho_all] at this, by rw [hrl]; exact HN.out, ⟨_, rfl⟩, HI.out⟩, HB.out⟩
end Go.Proofs.YtmepndnckcpgjaaGreat
