/- Walks: the specification's less. -/
import Derived.Test.YtpehhbiodmgjeaaW36
import Derived.Test.YtpehhbiodmgjeaaW39
namespace Go.Proofs.Ytpehhbiodmgjeaa
open Go.RowKit

theorem cmpL_ne {xs ys : List Int} {k : Nat} (h1 : k < xs.length) (h2 : k < ys.length) (h : xs.getD k 0 ≠ ys.getD k 0) : decide (cmpL (xs.drop k) (ys.drop k) < 0) = decide (xs.getD k 0 < ys.getD k 0) := by
  rw [cmpL_at h1 h2]
  generalize xs.getD k 0 = u at *
  generalize ys.getD k 0 = v at *
  unfold sgn3
  by_cases a : u < v
  · simp [a]
  · have b : v < u := by omega
    simp [a, b]
theorem cmpL_eq {xs ys : List Int} {k : Nat} (h1 : k < xs.length) (h2 : k < ys.length) (h : xs.getD k 0 = ys.getD k 0) : cmpL (xs.drop k) (ys.drop k) = cmpL (xs.drop (k + 1)) (ys.drop (k + 1)) := by
  rw [cmpL_at h1 h2, h]
  unfold sgn3
  simp
set_option maxRecDepth 100000 in
set_option maxHeartbeats 4000000 in
/-- dibberref08.less -/
theorem f90_any (A B : Option Addr) (n c d : Nat) (xs ys : List Int) (w : World) (hs : Ints w A n xs) (ho : Ints w B n ys) :
    Calls Try.prog 90 #[.slice A n c, .slice B n d] w fun e w' => e = .returned (.bool (decide (cmpL xs ys < 0))) ∧ ∃ k, w' = w.drewN k := by
  have hsm := hs.small
  have hl1 := hs.len
  have hl2 := ho.len
  have HS := Lib.hid hs
  have HO := Lib.hid ho
  have HNE : Hid (∀ k, k < n → xs.getD k 0 ≠ ys.getD k 0 → decide (cmpL (xs.drop k) (ys.drop k) < 0) = decide (xs.getD k 0 < ys.getD k 0)) := Lib.hid fun k hk h => cmpL_ne (by omega) (by omega) h
  have HEQ : Hid (∀ k, k < n → xs.getD k 0 = ys.getD k 0 → cmpL (xs.drop k) (ys.drop k) = cmpL (xs.drop (k + 1)) (ys.drop (k + 1))) := Lib.hid fun k hk h => cmpL_eq (by omega) (by omega) h
  have HEND : Hid (cmpL (xs.drop n) (ys.drop n) = 0) := Lib.hid (by rw [cmpL_end (by omega), if_neg (by omega)])
  have H0 : Hid (cmpL (xs.drop 0) (ys.drop 0) = cmpL xs ys) := rfl
  obtain ⟨R, hR⟩ : ∃ z, z = cmpL xs ys := ⟨_, rfl⟩
  rw [← hR] at H0 ⊢
  clear hs ho hl1 hl2 hR
  go_enter Try.func90, Try.ntmps90
  go_wp2
  go_loopw [5] (fun i wr => ∃ k : Nat, k ≤ n ∧ i = .int .i64 k ∧ Hid (cmpL (xs.drop k) (ys.drop k) = R) ∧ ∃ q, wr = w.drewN q) (fun i _ => n - (intOf i).toNat)
  case atStart => exact ⟨0, by omega, rfl, H0.out, 0, rfl⟩
  case round => as_aux_lemma =>
    obtain ⟨k, hk, rfl, hc, q, rfl⟩ := hrel
    by_cases hlt : k < n
    · obtain ⟨b, off, rfl, hc1⟩ := (HS.out).at_ hlt
      obtain ⟨b2, off2, rfl, hc2⟩ := (HO.out).at_ hlt
      have HN1 := Lib.hid (HNE.out k hlt)
      have HN2 := Lib.hid (HEQ.out k hlt)
      generalize xs.getD k 0 = u at *
      generalize ys.getD k 0 = v at *
      by_cases he : u = v
      · have hq : (u != v) = false := by simpa using he
        have HN : Hid (cmpL (xs.drop (k + 1)) (ys.drop (k + 1)) = R) := Lib.hid (by rw [← HN2.out he]; exact hc.out)
        clear he HN1 HN2 hc
        go_wp2
        go_quiet (fail)
        go_wp2
        go_roundw
        case rel => exact ⟨k + 1, by omega, by go_num, HN.out, by first | exact ⟨_, rfl⟩ | exact ⟨_, World.drewN_drewN _ _ _⟩⟩
        case measure => simp [intOf]; omega
      · have hq : (u != v) = true := by simpa using he
        have HN : Hid (decide (R < 0) = decide (u < v)) := Lib.hid (by rw [← hc.out]; exact HN1.out he)
        clear he HN1 HN2 hc
        go_wp2
        go_quiet (fail)
        go_wp2
        go_quiet (fail)
        go_wp2
        go_ret
        exact ⟨by rw [HN.out]; rfl, by first | exact ⟨_, rfl⟩ | exact ⟨_, World.drewN_drewN _ _ _⟩ | (simp only [World.drewN_drewN]; exact ⟨_, rfl⟩)⟩
    · obtain rfl : k = n := by omega
      have HN : Hid (decide (R < 0) = false) := Lib.hid (by rw [← hc.out, HEND.out]; rfl)
      clear hc
      go_wp2
      go_ret
      exact ⟨by rw [HN.out]; rfl, q, rfl⟩
end Go.Proofs.Ytpehhbiodmgjeaa
