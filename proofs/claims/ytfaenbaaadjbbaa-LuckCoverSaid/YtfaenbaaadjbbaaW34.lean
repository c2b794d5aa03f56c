/- Walk: near. -/
import Derived.Test.YtfaenbaaadjbbaaW9
namespace Go.Proofs.Ytfaenbaaadjbbaa
open Go.RowKit

def NearIn (goal : List Int) (j i : Nat) : Prop := blk goal j (2 * i) - blk goal j (2 * i + 1) ≤ 60 * 2 ^ j ∧ blk goal j (2 * i + 1) - blk goal j (2 * i) ≤ 60 * 2 ^ j
set_option maxRecDepth 100000 in
set_option maxHeartbeats 4000000 in
/-- dibberlaw05.near -/
theorem f30_any (A : Option Addr) (k n c : Nat) (goal : List Int) (w : World) (hs : Ints w A n goal) (hk : k ≤ 10) (hl : n = 2 ^ k) (hg : ∀ i, 0 ≤ goal.getD i 0 ∧ goal.getD i 0 ≤ 600) (b : Bool) (hb : b = true ↔ Near k goal) :
    Calls Try.prog 30 #[.int .i64 (k : Int), .slice A n c] w fun e w' => e = .returned (.bool b) ∧ w = w' := by
  have HBB := Lib.hid hb
  clear hb
  have HN := Lib.hid hl
  have hn2 : n ≤ 1024 := by rw [hl]; exact pow10 k hk
  have hshl : IntKind.i64.wrap ((2 : Int) ^ k) = (n : Int) := by rw [wrap_pow k (by omega), hl]
  have hn1 : 1 ≤ n := by rw [hl]; exact Nat.pow_pos (by omega)
  obtain ⟨bA, oA, rfl, hcA⟩ := hs.ad (by omega)
  have HC := Lib.hid hcA
  have HG1 := Lib.hid hg
  have HBL := Lib.hid (fun N b q => blkTo_in (goal := goal) hg N b q)
  clear hs hl hg hcA
  go_enter Try.func30, Try.ntmps30
  go_wp2
  go_loop [5] (fun mm => ∃ (j M : Nat), j ≤ k ∧ M ≤ n ∧ 1 ≤ M ∧ mm = .int .i64 (M : Int) ∧ Hid (M = 2 ^ j) ∧ Hid (∀ a i, a < j → (i + 1) * 2 ^ (a + 1) ≤ n → NearIn goal a i)) (fun mm => 1024 - (intOf mm).toNat)
  case atStart => exact ⟨0, 1, by omega, by omega, by omega, rfl, rfl, fun a i h => absurd h (by omega)⟩
  case round => as_aux_lemma =>
    obtain ⟨j, M, hj, hMn, hM1, rfl, HM, HF⟩ := hrel
    by_cases hlt : M < n
    · have hjk : j < k := by
        rcases Nat.lt_or_ge j k with h | h
        · exact h
        · obtain rfl : j = k := by omega
          have := HM.out; have := HN.out; omega
      obtain ⟨H, hH⟩ : ∃ H, H = 2 ^ (k - (j + 1)) := ⟨_, rfl⟩
      have hnH : Hid (H * (2 * M) = n) := by
        rw [hH, HM.out, HN.out, ← Nat.pow_succ', ← Nat.pow_add]; congr 1; omega
      have hM2 : 2 * M ≤ n := by
        rw [← hnH.out]
        have : 1 ≤ H := by rw [hH]; exact Nat.pow_pos (by omega)
        exact Nat.le_mul_of_pos_left _ this
      clear hH
      go_wp2
      go_loop [6, 7, 8, 9] (fun fr _ _ _ => ∃ (i F : Nat), F ≤ n ∧ fr = .int .i64 (F : Int) ∧ Hid (F = i * (2 * M)) ∧ Hid (∀ a, a < i → NearIn goal j a)) (fun fr _ _ _ => 1024 - (intOf fr).toNat)
      case atStart => exact ⟨0, 0, by omega, rfl, by unfold Hid; omega, fun a h => absurd h (by omega)⟩
      case round => as_aux_lemma =>
        obtain ⟨i, F, hFn, rfl, HFi, HNi⟩ := hrel
        by_cases hlt2 : F < n
        · have hF2 : F + 2 * M ≤ n := by
            have h1 : i < H := by
              rcases Nat.lt_or_ge i H with h | h
              · exact h
              · have h2 := Nat.mul_le_mul_right (2 * M) h
                rw [hnH.out, ← HFi.out] at h2; omega
            have h2 : (i + 1) * (2 * M) ≤ H * (2 * M) := Nat.mul_le_mul_right _ h1
            rw [Nat.add_mul, Nat.one_mul, hnH.out, ← HFi.out] at h2
            exact h2
          have HA : Hid (∀ q, blkTo goal M (2 * i) (q + 1) = blkTo goal M (2 * i) q + goal.getD (F + q) 0) := fun q => by
            have : F = 2 * i * M := by rw [HFi.out, Nat.mul_comm 2 i, Nat.mul_assoc]
            rw [this]; rfl
          have HB : Hid (∀ q, blkTo goal M (2 * i + 1) (q + 1) = blkTo goal M (2 * i + 1) q + goal.getD (F + M + q) 0) := fun q => by
            have : F + M = (2 * i + 1) * M := by rw [HFi.out, Nat.add_mul, Nat.one_mul, Nat.mul_comm 2 i, Nat.mul_assoc]
            rw [this]; rfl
          have V1 := Lib.hid (HBL.out M (2 * i))
          have V2 := Lib.hid (HBL.out M (2 * i + 1))
          have Z1 : Hid (blkTo goal M (2 * i) 0 = 0) := rfl
          have Z2 : Hid (blkTo goal M (2 * i + 1) 0 = 0) := rfl
          have E1 : Hid (blkTo goal M (2 * i) M = blk goal j (2 * i)) := by rw [HM.out]; rfl
          have E2 : Hid (blkTo goal M (2 * i + 1) M = blk goal j (2 * i + 1)) := by rw [HM.out]; rfl
          obtain ⟨P, hP⟩ : ∃ P, P = blkTo goal M (2 * i) := ⟨_, rfl⟩
          obtain ⟨Q, hQ⟩ : ∃ Q, Q = blkTo goal M (2 * i + 1) := ⟨_, rfl⟩
          rw [← hP] at HA V1 Z1 E1
          rw [← hQ] at HB V2 Z2 E2
          clear hP hQ
          go_wp2
          go_loop [7, 8, 9] (fun x y t => ∃ q : Nat, q ≤ M ∧ t = .int .i64 (q : Int) ∧ x = .int .i64 (P q) ∧ y = .int .i64 (Q q)) (fun _ _ t => M - (intOf t).toNat)
          case atStart => exact ⟨0, by omega, rfl, by rw [Z1.out], by rw [Z2.out]⟩
          case round =>
            obtain ⟨q, hq, rfl, rfl, rfl⟩ := hrel
            have hv1 := V1.out q
            have hv2 := V2.out q
            by_cases hlt3 : q < M
            · have hc1 := HC.out (F + q) (by omega)
              have hc2 := HC.out (F + M + q) (by omega)
              have s1 := Lib.hid (HA.out q)
              have s2 := Lib.hid (HB.out q)
              have hx1 := HG1.out (F + q)
              have hx2 := HG1.out (F + M + q)
              generalize goal.getD (F + q) 0 = x1 at *
              generalize goal.getD (F + M + q) 0 = x2 at *
              generalize P q = v1 at *
              generalize Q q = v2 at *
              go_wp2
              go_round
              case rel => exact ⟨q + 1, by omega, by go_num, by rw [s1.out], by rw [s2.out]⟩
              case measure => simp [intOf]; omega
            · obtain rfl : q = M := by omega
              generalize P q = v1 at *
              generalize Q q = v2 at *
              have e60 : (60 : Int) * 2 ^ j = 60 * (q : Int) := by rw [HM.out]; simp
              have w1 : IntKind.i64.wrap (v1 - v2) = v1 - v2 := IntWalk.i64_in _ (by omega)
              have w2 : IntKind.i64.wrap (v2 - v1) = v2 - v1 := IntWalk.i64_in _ (by omega)
              by_cases hbad : v1 - v2 ≤ 60 * (q : Int) ∧ v2 - v1 ≤ 60 * (q : Int)
              · have hin : Hid (NearIn goal j i) := by unfold NearIn; rw [← E1.out, ← E2.out, e60]; exact hbad
                obtain ⟨h1, h2⟩ := hbad
                have hmx : (if v1 - v2 < v2 - v1 then v2 - v1 else v1 - v2) ≤ 60 * (q : Int) := by split <;> omega
                have hmx2 : Hid (¬ 60 * (q : Int) < (if v1 - v2 < v2 - v1 then v2 - v1 else v1 - v2)) := by unfold Hid; omega
                have eF : Hid (F + 2 * q = (i + 1) * (2 * q)) := by rw [Nat.add_mul, Nat.one_mul, ← HFi.out]; rfl
                clear e60 hmx h1 h2
                go_wp2
                all_goals first
                  | (exfalso; have := hmx2.out; simp at *; omega)
                  | (go_round
                     case rel => exact ⟨i + 1, F + 2 * q, by omega, by go_num, eF, fun a ha => by
                       rcases Nat.lt_or_ge a i with h | h
                       · exact HNi.out a h
                       · obtain rfl : a = i := by omega
                         exact hin.out⟩
                     case measure => simp [intOf]; omega)
              · have hout : Hid (¬ Near k goal) := fun hN => by
                  apply hbad
                  have h1 := hN j i hjk (by
                    rw [Nat.pow_succ', ← HM.out, Nat.add_mul, Nat.one_mul, ← HFi.out, ← HN.out]; exact hF2)
                  rw [← E1.out, ← E2.out, e60] at h1
                  exact h1
                have hmx2 : Hid (60 * (q : Int) < (if v1 - v2 < v2 - v1 then v2 - v1 else v1 - v2)) := by unfold Hid; split <;> omega
                clear e60 hbad
                go_wp2
                all_goals first
                  | (exfalso; have := hmx2.out; simp at *; omega)
                  | (go_ret
                     exact ⟨ret_bool (by cases b with | false => rfl | true => exact absurd (HBB.out.1 rfl) hout.out), rfl⟩)
        · have hall : Hid (∀ a i, a < j + 1 → (i + 1) * 2 ^ (a + 1) ≤ n → NearIn goal a i) := fun a x ha hb => by
            rcases Nat.lt_or_ge a j with h | h
            · exact HF.out a x h hb
            · obtain rfl : a = j := by omega
              refine HNi.out x ?_
              rw [Nat.pow_succ', ← HM.out, Nat.add_mul, Nat.one_mul] at hb
              rcases Nat.lt_or_ge x i with h | h
              · exact h
              · have := Nat.mul_le_mul_right (2 * M) h
                rw [← HFi.out] at this; omega
          have HM' : Hid (M * 2 = 2 ^ (j + 1)) := by rw [Nat.pow_succ, ← HM.out]; rfl
          go_wp2
          go_round
          case rel => exact ⟨j + 1, M * 2, by omega, by omega, by omega, by go_num, HM', hall⟩
          case measure => simp [intOf]; omega
    · have hyes : Hid (Near k goal) := fun a i ha hi => by
        refine HF.out a i ?_ (by rw [HN.out]; exact hi)
        rcases Nat.lt_or_ge a j with h | h
        · exact h
        · have h1 : 2 ^ (j + 1) ≤ 2 ^ k := Nat.pow_le_pow_right (by omega) (by omega)
          rw [Nat.pow_succ, ← HM.out, ← HN.out] at h1
          omega
      go_wp2
      go_ret
      exact ⟨ret_bool (HBB.out.2 hyes.out).symm, rfl⟩
end Go.Proofs.Ytfaenbaaadjbbaa
