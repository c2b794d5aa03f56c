/- Walks: the specification's can; Can (both). -/
import Derived.Test.YtfaenbaaadjbbaaW7
namespace Go.Proofs.Ytfaenbaaadjbbaa
open Go.RowKit

theorem levG_sc (k : Nat) (goal : List Int) (P : Int) (h : P = 2 ^ k) : levG k goal = lev (60 * P) (sc P goal) := by subst h; rfl
theorem tdiv2_in (x M : Int) (h : -M ≤ x ∧ x ≤ M) : -M ≤ x.tdiv 2 ∧ x.tdiv 2 ≤ M := by
  rw [Int.tdiv_eq_ediv]
  have e : Int.sign 2 = 1 := rfl
  rw [e]
  split <;> omega
set_option maxRecDepth 100000 in
set_option maxHeartbeats 4000000 in
/-- dibberref05.can -/
theorem f58_any (A : Option Addr) (k n c : Nat) (goal : List Int) (w : World) (hs : Ints w A n goal) (hk : k ≤ 10) (hn : n = 2 ^ k) (hg : ∀ i, 0 ≤ goal.getD i 0 ∧ goal.getD i 0 ≤ 600) :
    Calls Try.prog 58 #[.int .i64 (k : Int), .slice A n c] w fun e w' => e = .returned (.bool (canB k goal)) ∧ Below w.heap.size w w' := by
  have hn1 : n ≤ 1024 := by rw [hn]; exact pow10 k hk
  have hp : 0 < n := by rw [hn]; exact Nat.pow_pos (by omega)
  obtain ⟨P, hP⟩ : ∃ P : Int, P = 2 ^ k := ⟨_, rfl⟩
  have hPn : P = ((2 ^ k : Nat) : Int) := by rw [hP]; simp
  have hP1 : 1 ≤ P := by rw [hPn]; have := Nat.pow_pos (n := k) (by omega : 0 < 2); omega
  have hP2 : P ≤ 1024 := by rw [hPn]; have := pow10 k hk; omega
  have s60 : IntKind.i64.wrap ((60 : Int) * 2 ^ k) = 60 * P := by rw [← hP]; exact IntWalk.i64_in _ (by omega)
  have hfin : Hid (canB k goal = decide (0 ≤ lev (60 * P) (sc P goal) k 0)) := by unfold canB; rw [levG_sc k goal P hP]; rfl
  have hlev : Hid (∀ j i, j < k → lev (60 * P) (sc P goal) (j + 1) i = if 60 * P < lev (60 * P) (sc P goal) j (2 * i) - lev (60 * P) (sc P goal) j (2 * i + 1) then lev (60 * P) (sc P goal) j (2 * i + 1)
      else if 60 * P < lev (60 * P) (sc P goal) j (2 * i + 1) - lev (60 * P) (sc P goal) j (2 * i) then lev (60 * P) (sc P goal) j (2 * i)
      else (lev (60 * P) (sc P goal) j (2 * i) + lev (60 * P) (sc P goal) j (2 * i + 1) - 60 * P).tdiv 2) := by
    have := lev_ref k goal
    rw [levG_sc k goal P hP, ← hP] at this
    exact this
  have HP := Lib.hid hP
  have hsx : Hid (∀ i, sc P goal i = goal.getD i 0 * P) := fun i => rfl
  have HN := Lib.hid hn
  have HS := Lib.hid hs
  have hgP : Hid (∀ i, 0 ≤ sc P goal i ∧ sc P goal i ≤ 614400) := fun i => by
    have h := hg i
    unfold sc
    refine ⟨Int.mul_nonneg h.1 (by omega), ?_⟩
    have := Int.mul_le_mul h.2 hP2 (by omega) (by omega)
    omega
  have HV : Hid (∀ j i, j ≤ 10 → -614400 ≤ lev (60 * P) (sc P goal) j i ∧ lev (60 * P) (sc P goal) j i ≤ 614400) := fun j i hj => by
    have h1 := lev_bounds (one := 60 * P) (g := sc P goal) (M := 614400) (by omega) hgP.out j i
    have h2 : (j : Int) * (60 * P) ≤ 10 * 61440 := Int.mul_le_mul (by omega) (by omega) (by omega) (by omega)
    omega
  obtain ⟨O, hO⟩ : ∃ O, O = 60 * P := ⟨_, rfl⟩
  rw [← hO] at s60 hfin hlev HV
  have hO2 : O ≤ 61440 := by omega
  have hO1 : 1 ≤ O := by omega
  clear hg hn hs hP hPn hO
  go_enter Try.func58, Try.ntmps58
  go_wp2
  go_loopw [6, 7] (fun v i wr => ∃ q : Nat, q ≤ n ∧ i = .int .i64 (q : Int) ∧ Row wr w.heap.size v (levL O (sc P goal) 0 q) ∧ Below w.heap.size w wr) (fun _ i _ => n - (intOf i).toNat)
  case atStart => exact ⟨0, by omega, rfl, Row.nil _ _, Below.refl _ _⟩
  case round => as_aux_lemma =>
    obtain ⟨q, hq, rfl, hrow, hbel⟩ := hrel
    have HR := Lib.hid hrow
    have HB := Lib.hid hbel
    have hsz := hbel.size
    by_cases hlt : q < n
    · obtain ⟨b, off, rfl, hc⟩ := HS.out.at_ hlt
      have hc1 := (hbel.cell (lt_of_cell hc)).trans hc
      have hst := Lib.hid (levL_succ O (sc P goal) 0 q)
      have hx2 : Hid (lev O (sc P goal) 0 q = goal.getD q 0 * P) := rfl
      have hx3 := hgP.out q
      rw [hsx.out] at hx3
      rw [hx2.out] at hst
      generalize goal.getD q 0 = x at *
      have hw : IntKind.i64.wrap (x * 2 ^ k) = x * P := by rw [← HP.out]; exact IntWalk.i64_in _ (by omega)
      generalize x * P = y at *
      clear hrow hbel hc hx2
      go_wp2_with (at_builtin; refine wpList_push rfl (.tmp 20) (.tmp 27) rfl w.heap.size _ (levL O (sc P goal) 0 q) rfl (HR.out.alloc _) wr.heap.size 1 y rfl ?hc ?hl ?hb ?hr)
      case hc => exact cell_new wr _ 3 0
      case hl => rw [levL_len]; omega
      case hb => simp; omega
      case hr =>
        intro v' w' hr' hg'
        rw [hst.out] at hr'
        have HR2 := Lib.hid hr'
        have HB3 : Hid (Below w.heap.size w w') := below_grown (HB.out.alloc hsz _) hg' (by simp; omega) (HR.out.alloc _) (Nat.le_refl _)
        clear hr' hg'
        go_wp2_with fail
        go_roundw
        case rel => exact ⟨q + 1, by omega, by go_num, HR2.out, HB3.out⟩
        case measure => simp [intOf]; omega
    · obtain rfl : q = n := by omega
      obtain ⟨A0, c0, rfl, hi0⟩ := hrow.form
      have hi0 := hi0 1024 (by rw [levL_len]; exact hn1) (by omega)
      rw [levL_len] at hi0
      rw [levL_len]
      have HI := Lib.hid hi0
      have HL0 : Hid (0 ≤ k ∧ q = 2 ^ (k - 0)) := ⟨by omega, HN.out⟩
      clear hi0 hrow hbel
      go_wp2
      go_loopw [6, 8, 9, 10, 11] (fun v _ _ _ _ wr => ∃ (j m : Nat) (A0 : Option Addr) (c0 : Nat), Hid (j ≤ k ∧ m = 2 ^ (k - j)) ∧ v = .slice A0 m c0 ∧ Ints wr A0 m (levL O (sc P goal) j m) ∧ Below w.heap.size w wr) (fun v _ _ _ _ _ => match v with | .slice _ m _ => m | _ => 0)
      case atStart => exact ⟨0, q, _, _, HL0.out, rfl, HI.out, HB.out⟩
      case round => as_aux_lemma =>
        obtain ⟨j, m, A1, c1, hjm, rfl, hi, hbel⟩ := hrel
        have HJ := Lib.hid hjm
        have HI1 := Lib.hid hi
        have HB1 := Lib.hid hbel
        have hm1 : m ≤ 1024 := by rw [hjm.out.2]; exact pow10 _ (by omega)
        by_cases hgt : 1 < m
        · have hjk : j < k := by
            rcases Nat.lt_or_ge j k with h | h
            · exact h
            · have := hjm.out.2
              rw [show k - j = 0 by omega] at this
              omega
          obtain ⟨h, hh⟩ : ∃ h, h = 2 ^ (k - (j + 1)) := ⟨_, rfl⟩
          have hm2 : Hid (m = 2 * h) := by rw [hh, ← half_pow hjk]; exact hjm.out.2
          have hmh : h ≤ m := by have := hm2.out; omega
          have HH := Lib.hid hh
          clear hjm hi hbel hh
          obtain ⟨b1, off1, rfl, hc1⟩ := HI1.out.ad (by omega)
          have HC := Lib.hid hc1
          clear hc1
          obtain ⟨wq, rfl⟩ : ∃ wq : World, wq = wr := ⟨_, rfl⟩
          have hq1 : decide ((1 : Int) < (m : Int)) = true := by simp; omega
          go_wp2
          go_loopw [8, 9, 10, 11] (fun v i _ _ w2 => ∃ t I : Nat, Hid (I = 2 * t) ∧ I ≤ m ∧ t ≤ h ∧ i = .int .i64 (I : Int) ∧ Row w2 wq.heap.size v (levL O (sc P goal) (j + 1) t) ∧ Below wq.heap.size wq w2) (fun _ i _ _ _ => m - (intOf i).toNat)
          case atStart => exact ⟨0, 0, Lib.hid rfl, by omega, by omega, rfl, Row.nil _ _, Below.refl _ _⟩
          case round => as_aux_lemma =>
            obtain ⟨t, I, hIt, hI, ht, rfl, hrow, hbel⟩ := hrel
            have HR := Lib.hid hrow
            have HB2 := Lib.hid hbel
            have hsz := hbel.size
            by_cases hlt : I < m
            · have htl : t < h := by have := hIt.out; have := hm2.out; omega
              obtain ⟨J, hJ⟩ : ∃ J, J = I + 1 := ⟨_, rfl⟩
              have HJ1 := Lib.hid hJ
              have hJm : J < m := by have := hIt.out; have := hm2.out; omega
              have hI2 : I + 2 ≤ m := by omega
              have e1 : Hid (wq.cell? ⟨b1, off1 + I, none⟩ = some (.int .i64 (lev O (sc P goal) j (2 * t)))) := by
                rw [← hIt.out, ← levL_get hlt]; exact HC.out I hlt
              have e2 : Hid (wq.cell? ⟨b1, off1 + J, none⟩ = some (.int .i64 (lev O (sc P goal) j (2 * t + 1)))) := by
                rw [← hIt.out, ← HJ1.out, ← levL_get hJm]; exact HC.out J hJm
              have d1 := (hbel.cell (lt_of_cell e1.out)).trans e1.out
              have d2 := (hbel.cell (lt_of_cell e2.out)).trans e2.out
              have v1 := HV.out j (2 * t) (by omega)
              have v2 := HV.out j (2 * t + 1) (by omega)
              have hst := Lib.hid (levL_succ O (sc P goal) (j + 1) t)
              have hx := Lib.hid (hlev.out j t hjk)
              generalize lev O (sc P goal) (j + 1) t = z at *
              generalize lev O (sc P goal) j (2 * t) = x at *
              generalize lev O (sc P goal) j (2 * t + 1) = y at *
              have w1 : IntKind.i64.wrap ((I : Int) + 1) = (J : Int) := by rw [IntWalk.i64_in _ (by omega)]; omega
              have b1' : (0 : Int) ≤ (I : Int) := by omega
              have b2' : (I : Int) < (m : Int) := by omega
              have b3' : (0 : Int) ≤ (J : Int) := by omega
              have b4' : (J : Int) < (m : Int) := by omega
              clear hrow hbel hJ e1 e2
              by_cases c1' : O < x - y
              · have hz : Hid (y = z) := by rw [hx.out, if_pos c1']; rfl
                rw [← hz.out] at hst
                go_wp2_with fail
                go_quiet (fail)
                rename_i nq
                have HR1 := Lib.hid (HR.out.drewN nq)
                have HB5 := Lib.hid (below_drewN HB2.out nq)
                go_wp2_with (at_builtin; refine wpList_push rfl (.tmp 62) (.tmp 64) rfl wq.heap.size _ (levL O (sc P goal) (j + 1) t) rfl (HR1.out.alloc _) wr.heap.size 1 y rfl ?hc ?hl ?hb ?hr)
                case hc => exact cell_new (wr.drewN nq) _ 3 0
                case hl => rw [levL_len]; omega
                case hb => simp; omega
                case hr =>
                  intro v' w' hr' hg'
                  rw [hst.out] at hr'
                  have HR2 := Lib.hid hr'
                  have HB3 : Hid (Below wq.heap.size wq w') := below_grown (HB5.out.alloc hsz _) hg' (by simp; omega) (HR1.out.alloc _) (Nat.le_refl _)
                  clear hr' hg'
                  go_wp2_with fail
                  go_roundw
                  case rel => exact ⟨t + 1, I + 2, by have := hIt.out; unfold Hid; omega, hI2, by omega, by go_num, HR2.out, HB3.out⟩
                  case measure => simp [intOf]; omega
              by_cases c2' : O < y - x
              · have hz : Hid (x = z) := by rw [hx.out, if_neg c1', if_pos c2']; rfl
                rw [← hz.out] at hst
                go_wp2_with fail
                go_quiet (fail)
                rename_i nq
                have HR1 := Lib.hid (HR.out.drewN nq)
                have HB5 := Lib.hid (below_drewN HB2.out nq)
                go_wp2_with (at_builtin; refine wpList_push rfl (.tmp 72) (.tmp 74) rfl wq.heap.size _ (levL O (sc P goal) (j + 1) t) rfl (HR1.out.alloc _) wr.heap.size 1 x rfl ?hc ?hl ?hb ?hr)
                case hc => exact cell_new (wr.drewN nq) _ 3 0
                case hl => rw [levL_len]; omega
                case hb => simp; omega
                case hr =>
                  intro v' w' hr' hg'
                  rw [hst.out] at hr'
                  have HR2 := Lib.hid hr'
                  have HB3 : Hid (Below wq.heap.size wq w') := below_grown (HB5.out.alloc hsz _) hg' (by simp; omega) (HR1.out.alloc _) (Nat.le_refl _)
                  clear hr' hg'
                  go_wp2_with fail
                  go_roundw
                  case rel => exact ⟨t + 1, I + 2, by have := hIt.out; unfold Hid; omega, hI2, by omega, by go_num, HR2.out, HB3.out⟩
                  case measure => simp [intOf]; omega
              · have hz : Hid ((x + y - O).tdiv 2 = z) := by rw [hx.out, if_neg c1', if_neg c2']; rfl
                rw [← hz.out] at hst
                have hzb : -2000000 ≤ (x + y - O).tdiv 2 ∧ (x + y - O).tdiv 2 ≤ 2000000 := tdiv2_in (x + y - O) 2000000 (by omega)
                go_wp2_with fail
                go_quiet (fail)
                rename_i nq
                have HR1 := Lib.hid (HR.out.drewN nq)
                have HB5 := Lib.hid (below_drewN HB2.out nq)
                go_wp2_with (at_builtin; refine wpList_push rfl (.tmp 47) (.tmp 54) rfl wq.heap.size _ (levL O (sc P goal) (j + 1) t) rfl (HR1.out.alloc _) wr.heap.size 1 ((x + y - O).tdiv 2) rfl ?hc ?hl ?hb ?hr)
                case hc => exact cell_new (wr.drewN nq) _ 3 0
                case hl => rw [levL_len]; omega
                case hb => simp; omega
                case hr =>
                  intro v' w' hr' hg'
                  rw [hst.out] at hr'
                  have HR2 := Lib.hid hr'
                  have HB3 : Hid (Below wq.heap.size wq w') := below_grown (HB5.out.alloc hsz _) hg' (by simp; omega) (HR1.out.alloc _) (Nat.le_refl _)
                  clear hr' hg'
                  go_wp2_with fail
                  go_roundw
                  case rel => exact ⟨t + 1, I + 2, by have := hIt.out; unfold Hid; omega, hI2, by omega, by go_num, HR2.out, HB3.out⟩
                  case measure => simp [intOf]; omega
            · have htl : t = h := by have := hIt.out; have := hm2.out; omega
              subst htl
              obtain ⟨A2, c2, rfl, hio⟩ := hrow.form
              have hio := hio 1024 (by rw [levL_len]; omega) (by omega)
              rw [levL_len] at hio
              rw [levL_len]
              have HI2 := Lib.hid hio
              have HB4 := Lib.hid (below_step HB1.out hbel)
              have hjm' : Hid (j + 1 ≤ k ∧ t = 2 ^ (k - (j + 1))) := ⟨hjk, HH.out⟩
              have htm : t < m := by have := hm2.out; omega
              clear hio hrow hbel
              go_wp2
              go_roundw
              case rel => exact ⟨j + 1, t, A2, c2, hjm', rfl, HI2.out, HB4.out⟩
              case measure => simp; omega
        · have hjk : j = k := by
            rcases Nat.lt_or_ge j k with h | h
            · have h1 := hjm.out.2
              have h2 : 2 ^ 1 ≤ 2 ^ (k - j) := Nat.pow_le_pow_right (by omega) (by omega)
              omega
            · have := hjm.out.1; omega
          subst hjk
          have hm : m = 1 := by have := hjm.out.2; rw [Nat.sub_self] at this; exact this
          subst hm
          obtain ⟨b1, off1, rfl, hc1⟩ := hi.ad (by omega)
          have hc0 := hc1 0 (by omega)
          rw [levL_get (by omega), Nat.add_zero] at hc0
          clear hc1 hjm hi hbel
          go_wp2
          go_ret
          exact ⟨ret_bool hfin.out.symm, HB1.out⟩
end Go.Proofs.Ytfaenbaaadjbbaa
