/- Walks: Squares. -/
import Derived.Test.YtiodednhadnekaaDoorW50
import Derived.Test.YtiodednhadnekaaDoorPlain7
namespace Go.Proofs.YtiodednhadnekaaDoor
open Go.RowKit Go.Deep
attribute [local go_sem ↓] Go.wp_at_zero Go.wp_at_succ

def sqC (b : List (List Int)) : Int := if fullB b = true then (sqN b b.length : Int) else 0
theorem sumN_s (f : Nat → Nat) (k : Nat) : sumN f (k + 1) = sumN f k + f k := rfl
set_option maxRecDepth 100000 in
set_option maxHeartbeats 8000000 in
/-- bed.Squares -/
theorem f41_any (A : Option Addr) (n c : Nat) (b : List (List Int)) (w : World) (hs : Beds w A n c b) :
    Calls Tryd.prog 41 #[.slice A n c] w fun e w' => e = .returned (.tuple #[.int .i64 (sqC b), .int .i64 (trE b)]) ∧ Below w.heap.size w w' := by
  have K60 := Lib.hid (f60_any A n c b w hs)
  cases hf : fullB b
  · rw [hf] at K60
    have HE : Hid (sqC b = 0 ∧ trE b = 2) := by unfold sqC trE; rw [hf]; exact ⟨rfl, rfl⟩
    clear hs hf
    go_enter Tryd.func41, Tryd.ntmps41
    go_wp2_with fail
    refine K60.out.mono ?_
    rintro e w1 ⟨rfl, hb⟩
    have HB := Lib.hid hb
    clear hb
    go_wp2
    go_ret2
    exact ⟨by rw [HE.out.1, HE.out.2]; rfl, HB.out⟩
  · rw [hf] at K60
    obtain ⟨hn1, hn7, hfull⟩ := fullB_iff.1 hf
    have hbl := hs.len
    have hcap := hs.cap
    rw [hbl] at hn1 hn7 hfull
    have HE : Hid (sqC b = (sqN b n : Int) ∧ trE b = 0) := by unfold sqC trE; rw [hf, hbl]; exact ⟨rfl, rfl⟩
    have HROW : Hid (∀ i, i < n → (b.getD i []).length = n) := hfull.shape.2
    have HS := Lib.hid hs
    have HQ : Hid (sqN b n = sumN (fun i => sumN (fun j => sumN (fun c => sumN (fun d => sqAt b i j c d) c) n) i) n) := rfl
    obtain ⟨g0, o0, hA0, _⟩ := hs.at_ hn1
    subst hA0
    clear hf hs hfull
    go_enter Tryd.func41, Tryd.ntmps41
    go_wp2_with fail
    refine K60.out.mono ?_
    rintro e w1 ⟨rfl, hb⟩
    have HSB := Lib.hid (HS.out.below hb)
    have HB := Lib.hid hb
    clear hb K60 HS
    go_wp2
    go_loopw [16, 4] (fun ii mi wi => ∃ i M : Nat, i ≤ n ∧ ii = .int .i64 (i : Int) ∧ mi = .int .i64 (M : Int) ∧ M ≤ 343 * i ∧ Hid (M = sumN (fun i => sumN (fun j => sumN (fun c => sumN (fun d => sqAt b i j c d) c) n) i) i) ∧ ∃ q, wi = w1.drewN q) (fun ii _ _ => n - (intOf ii).toNat)
    case atStart => exact ⟨0, 0, by omega, rfl, rfl, by omega, rfl, 0, rfl⟩
    case round => as_aux_lemma =>
      obtain ⟨i, M, hi, rfl, rfl, hM, hMS, q, rfl⟩ := hrel
      by_cases hin : i < n
      · obtain ⟨gi, oi, eAi, Bi, di, hci, _, _, hIi⟩ := HSB.out.at_ hin
        injection eAi with eAi
        injection eAi with e1 e2
        subst e1 e2
        rw [HROW.out i hin] at hci hIi
        have HIi := Lib.hid hIi
        have i0 : (0 : Int) ≤ (i : Int) := by omega
        have inn : (i : Int) < (n : Int) := by omega
        have icc : (i : Int) ≤ (c : Int) := by omega
        have HMS := Lib.hid hMS.out
        clear hIi hMS
        go_wp2
        go_loopw [25, 4] (fun ji mi wi => ∃ j M' : Nat, j ≤ i ∧ ji = .int .i64 (j : Int) ∧ mi = .int .i64 (M' : Int) ∧ M' ≤ 343 * i + 49 * j ∧ Hid (M' = M + sumN (fun j => sumN (fun c => sumN (fun d => sqAt b i j c d) c) n) j) ∧ ∃ q, wi = w1.drewN q) (fun ji _ _ => i - (intOf ji).toNat)
        case atStart => exact ⟨0, M, by omega, rfl, rfl, by omega, rfl, _, rfl⟩
        case round => as_aux_lemma =>
          obtain ⟨j, M', hj, rfl, rfl, hM', hMS', q, rfl⟩ := hrel
          by_cases hji : j < i
          · obtain ⟨gj, oj, eAj, Bj, dj, hcj, _, _, hIj⟩ := HSB.out.at_ (show j < n by omega)
            injection eAj with eAj
            injection eAj with e1 e2
            subst e1 e2
            rw [HROW.out j (by omega)] at hcj hIj
            have HIj := Lib.hid hIj
            have j0 : (0 : Int) ≤ (j : Int) := by omega
            have jn : (j : Int) < (i : Int) := by omega
            have HMS2 := Lib.hid hMS'.out
            clear hIj hMS'
            go_wp2
            go_loopw [31, 4] (fun ci mi wi => ∃ x N : Nat, x ≤ n ∧ ci = .int .i64 (x : Int) ∧ mi = .int .i64 (N : Int) ∧ N ≤ 343 * i + 49 * j + 7 * x ∧ Hid (N = M' + sumN (fun c => sumN (fun d => sqAt b i j c d) c) x) ∧ ∃ q, wi = w1.drewN q) (fun ci _ _ => n - (intOf ci).toNat)
            case atStart => exact ⟨0, M', by omega, rfl, rfl, by omega, rfl, _, rfl⟩
            case round => as_aux_lemma =>
              obtain ⟨x, N, hx, rfl, rfl, hN, hNS, q, rfl⟩ := hrel
              by_cases hxn : x < n
              · have HNS := Lib.hid hNS.out
                have x0 : (0 : Int) ≤ (x : Int) := by omega
                have xn : (x : Int) < (n : Int) := by omega
                clear hNS
                go_wp2
                go_loopw [35, 4] (fun di mi wi => ∃ y L : Nat, y ≤ x ∧ di = .int .i64 (y : Int) ∧ mi = .int .i64 (L : Int) ∧ L ≤ 343 * i + 49 * j + 7 * x + y ∧ Hid (L = N + sumN (fun d => sqAt b i j x d) y) ∧ ∃ q, wi = w1.drewN q) (fun di _ _ => x - (intOf di).toNat)
                case atStart => exact ⟨0, N, by omega, rfl, rfl, by omega, rfl, _, rfl⟩
                case round => as_aux_lemma =>
                  obtain ⟨y, L, hy, rfl, rfl, hL, hLS, q, rfl⟩ := hrel
                  by_cases hyx : y < x
                  · obtain ⟨g1, p1, eB1, hc1⟩ := HIi.out.at_ hxn
                    obtain ⟨g2, p2, eB2, hc2⟩ := HIi.out.at_ (show y < n by omega)
                    rw [eB1] at eB2
                    injection eB2 with eB2
                    injection eB2 with e1 e2
                    subst e1 e2 eB1
                    obtain ⟨g3, p3, eB3, hc3⟩ := HIj.out.at_ hxn
                    obtain ⟨g4, p4, eB4, hc4⟩ := HIj.out.at_ (show y < n by omega)
                    rw [eB3] at eB4
                    injection eB4 with eB4
                    injection eB4 with e1 e2
                    subst e1 e2 eB3
                    have y0 : (0 : Int) ≤ (y : Int) := by omega
                    have yn : (y : Int) < (n : Int) := by omega
                    have yx : (y : Int) < (x : Int) := by omega
                    have HSQ : Hid (sqAt b i j x y = if (b.getD i []).getD x 0 = (b.getD j []).getD y 0 ∧ (b.getD i []).getD y 0 = (b.getD j []).getD x 0 then 1 else 0) := rfl
                    have HNX : Hid (∀ z, sqAt b i j x y = z → L + z = N + sumN (fun d => sqAt b i j x d) (y + 1)) := Lib.hid fun z hz => by rw [sumN_s, hz, ← Nat.add_assoc, ← hLS.out]
                    generalize (b.getD i []).getD x 0 = u1 at *
                    generalize (b.getD j []).getD y 0 = v1 at *
                    generalize (b.getD i []).getD y 0 = u2 at *
                    generalize (b.getD j []).getD x 0 = v2 at *
                    clear hLS
                    by_cases hu : u1 = v1
                    · have hq1 : (u1 == v1) = true := by simpa using hu
                      by_cases hv : u2 = v2
                      · have hq2 : (u2 == v2) = true := by simpa using hv
                        have HE2 := Lib.hid (HNX.out 1 (by rw [HSQ.out, if_pos ⟨hu, hv⟩]))
                        clear hu hv HSQ HNX
                        go_wp2
                        go_quiet (fail)
                        go_wp2
                        go_roundw
                        case rel => exact ⟨y + 1, L + 1, by omega, by go_num, by go_num, by omega, HE2.out, by first | exact ⟨_, rfl⟩ | exact ⟨_, World.drewN_drewN _ _ _⟩⟩
                        case measure => simp [intOf]; omega
                      · have hq2 : (u2 == v2) = false := by simpa using hv
                        have HE2 := Lib.hid (HNX.out 0 (by rw [HSQ.out, if_neg fun h => hv h.2]))
                        clear hu hv HSQ HNX
                        go_wp2
                        go_quiet (fail)
                        go_wp2
                        go_roundw
                        case rel => exact ⟨y + 1, L, by omega, by go_num, rfl, by omega, HE2.out, by first | exact ⟨_, rfl⟩ | exact ⟨_, World.drewN_drewN _ _ _⟩⟩
                        case measure => simp [intOf]; omega
                    · have hq1 : (u1 == v1) = false := by simpa using hu
                      have HE2 := Lib.hid (HNX.out 0 (by rw [HSQ.out, if_neg fun h => hu h.1]))
                      clear hu HSQ HNX
                      go_wp2
                      go_quiet (fail)
                      go_wp2
                      go_roundw
                      case rel => exact ⟨y + 1, L, by omega, by go_num, rfl, by omega, HE2.out, by first | exact ⟨_, rfl⟩ | exact ⟨_, World.drewN_drewN _ _ _⟩⟩
                      case measure => simp [intOf]; omega
                  · obtain rfl : y = x := by omega
                    have HE2 : Hid (L = M' + sumN (fun c => sumN (fun d => sqAt b i j c d) c) (y + 1)) := Lib.hid (by rw [sumN_s, ← Nat.add_assoc, ← HNS.out]; exact hLS.out)
                    clear hLS
                    go_wp2
                    go_roundw
                    case rel => exact ⟨y + 1, L, by omega, by go_num, rfl, by omega, HE2.out, _, rfl⟩
                    case measure => simp [intOf]; omega
              · obtain rfl : x = n := by omega
                have HE2 : Hid (N = M + sumN (fun j => sumN (fun c => sumN (fun d => sqAt b i j c d) c) x) (j + 1)) := Lib.hid (by rw [sumN_s, ← Nat.add_assoc, ← HMS2.out]; exact hNS.out)
                clear hNS
                go_wp2
                go_roundw
                case rel => exact ⟨j + 1, N, by omega, by go_num, rfl, by omega, HE2.out, _, rfl⟩
                case measure => simp [intOf]; omega
          · obtain rfl : j = i := by omega
            have HN : Hid (M' = sumN (fun i => sumN (fun j => sumN (fun c => sumN (fun d => sqAt b i j c d) c) n) i) (j + 1)) := Lib.hid (by rw [sumN_s, ← HMS.out]; exact hMS'.out)
            clear hMS'
            go_wp2
            go_roundw
            case rel => exact ⟨j + 1, M', by omega, by go_num, rfl, by omega, HN.out, _, rfl⟩
            case measure => simp [intOf]; omega
      · obtain rfl : i = n := by omega
        have HF : Hid ((M : Int) = sqC b) := Lib.hid (by rw [HE.out.1, HQ.out, hMS.out])
        clear hMS
        go_wp2
        go_ret2
        exact ⟨by rw [← HF.out, HE.out.2]; rfl, below_drewN HB.out _⟩
end Go.Proofs.YtiodednhadnekaaDoor
