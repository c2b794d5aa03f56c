/- Walks: mulD. -/
import Derived.Test.YtfaenbaaadjbbaaW59
namespace Go.Proofs.Ytfaenbaaadjbbaa
open Go.RowKit

set_option maxRecDepth 100000 in
set_option maxHeartbeats 4000000 in
/-- dibberref01.mulD -/
theorem f68_any (A B : Option Addr) (xs ys : List Nat) (c d : Nat) (w : World) (ha : Ints w A xs.length (nn xs)) (hb : Ints w B ys.length (nn ys)) (hla : xs.length ≤ 400) (hlb : ys.length ≤ 400)
    (hsa : SmallT xs) (hsb : SmallT ys) :
    Calls Try.prog 68 #[.slice A xs.length c, .slice B ys.length d] w (SlD w (valT xs * valT ys)) := by
  have HX := Lib.hid ha
  have HY := Lib.hid hb
  have HSX := Lib.hid hsa
  have HSY := Lib.hid hsb
  obtain ⟨v, hv⟩ : ∃ v, v = valT ys := ⟨_, rfl⟩
  obtain ⟨u, hu⟩ : ∃ u, u = valT xs := ⟨_, rfl⟩
  rw [← hv, ← hu]
  obtain ⟨n, hn⟩ : ∃ n, n = xs.length := ⟨_, rfl⟩
  obtain ⟨m, hm⟩ : ∃ m, m = ys.length := ⟨_, rfl⟩
  have HXV : Hid (valTd xs n = u) := by rw [hu, hn]; rfl
  have HYV : Hid (valTd ys m = v) := by rw [hv, hm]; rfl
  rw [← hn] at HX hla ⊢
  rw [← hm] at HY hlb ⊢
  have hmk := make_ints (n + m) (by omega) w
  rw [Int.natCast_add] at hmk
  obtain ⟨w1, hw1⟩ : ∃ w1, w1 = w.alloc (.cells ((List.replicate (n + m) (0 : Int)).map (Value.int .i64)).toArray 3) := ⟨_, rfl⟩
  rw [← hw1] at hmk
  have B1 : Hid (Below w.heap.size w w1) := by rw [hw1]; exact below_alloc _ _
  have HO : Hid (Own w1 w.heap.size (nn (List.replicate (n + m) 0))) := by rw [hw1, ← nn_zeros]; exact Own.made w _
  have hpow : Hid (∀ j, valTd xs j * v + xs.getD j 0 * v * D10 ^ j = valTd xs (j + 1) * v) := fun j => by
    show _ = (valTd xs j + xs.getD j 0 * D10 ^ j) * v
    rw [Nat.add_mul]; congr 1; ac_rfl
  clear ha hb hsa hsb hv hu hn hm hw1
  go_enter Try.func68, Try.ntmps68
  go_wp2
  go_loopw [6] (fun i wr => ∃ (k : Nat) (O : List Nat), k ≤ n ∧ i = .int .i64 (k : Int) ∧ Own wr w.heap.size (nn O) ∧ Hid (O.length = n + m ∧ SmallT O ∧ valTd O (n + m) = valTd xs k * v ∧ ∀ j, k + m ≤ j → O.getD j 0 = 0) ∧ Below w.heap.size w wr) (fun i _ => n - (intOf i).toNat)
  case atStart => exact ⟨0, _, by omega, rfl, HO.out, ⟨by simp, smallT_zeros _, by rw [valTd_zeros (Nat.zero_le _) (fun j _ _ => zerosT_get _ _)]; simp [valTd], fun j _ => zerosT_get _ _⟩, B1.out⟩
  case round => as_aux_lemma =>
    obtain ⟨i, O, hi, rfl, hown, hO, hb⟩ := hrel
    have HOO := Lib.hid hown
    have HB := Lib.hid hb
    have hwx := HX.out.below hb
    by_cases hlt : i < n
    · obtain ⟨bx, ox, rfl, hcx⟩ := hwx.at_ hlt
      rw [nn_get] at hcx
      have hxs : Hid (xs.getD i 0 < D10) := HSX.out i
      have hnext := Lib.hid (hpow.out i)
      have HXC : Hid (∀ W, Below w.heap.size w W → W.cell? ⟨bx, ox + i, none⟩ = some (.int .i64 (xs.getD i 0 : Int))) := fun W h => by
        have := HX.out.below h
        obtain ⟨b2, o2, e, h2⟩ := this.at_ hlt
        injection e with e; injection e with e1 e2; subst e1 e2
        rw [nn_get] at h2; exact h2
      generalize xs.getD i 0 = x at *
      have hstart : Hid (O.length = n + m ∧ SmallT O ∧ valTd O (n + m) + 0 * D10 ^ (i + 0) = valTd xs i * v + x * valTd ys 0 * D10 ^ i ∧ ∀ j, i + m ≤ j → O.getD j 0 = 0) := ⟨hO.out.1, hO.out.2.1, by rw [hO.out.2.2.1]; simp [valTd], hO.out.2.2.2⟩
      clear hown hb hwx hO hcx
      go_wp2
      go_loopw [7, 8] (fun cy j wr => ∃ (k : Nat) (O : List Nat) (cc : Nat), k ≤ m ∧ j = .int .i64 (k : Int) ∧ cy = .int .i64 (cc : Int) ∧ cc < 10000 ∧ Own wr w.heap.size (nn O) ∧ Hid (O.length = n + m ∧ SmallT O ∧ valTd O (n + m) + cc * D10 ^ (i + k) = valTd xs i * v + x * valTd ys k * D10 ^ i ∧ ∀ j, i + m ≤ j → O.getD j 0 = 0) ∧ Below w.heap.size w wr) (fun _ j _ => m - (intOf j).toNat)
      case atStart => exact ⟨0, O, 0, by omega, rfl, rfl, by omega, HOO.out, hstart.out, HB.out⟩
      case round => as_aux_lemma =>
        obtain ⟨k, O, cc, hk, rfl, rfl, hcc, hown, hO, hb⟩ := hrel
        have HOO := Lib.hid hown
        have HB := Lib.hid hb
        have hwy := HY.out.below hb
        have hOl := hO.out.1
        by_cases hlt2 : k < m
        · obtain ⟨by_, oy, rfl, hcy⟩ := hwy.at_ hlt2
          rw [nn_get] at hcy
          have hcx := HXC.out wr hb
          have hys : ys.getD k 0 < D10 := HSY.out k
          have hkey := Lib.hid (mulT_step (L := n + m) (b := ys.getD k 0) (by rw [hOl]; omega) (by omega) hO.out.2.2.1)
          have hys2 : Hid (valTd ys k + ys.getD k 0 * D10 ^ k = valTd ys (k + 1)) := rfl
          rw [hys2.out] at hkey
          have hzero : Hid (∀ z, ∀ j, i + m ≤ j → (O.set (i + k) z).getD j 0 = 0) := fun z j hj => by
            rw [getN_setT _ _ _ _ (by omega), if_neg (by omega)]; exact hO.out.2.2.2 j hj
          obtain ⟨J, hJ⟩ : ∃ J, J = i + k := ⟨_, rfl⟩
          have eJ : (i : Int) + (k : Int) = (J : Int) := by omega
          rw [← hJ] at hkey hzero
          have hJ2 : J < n + m := by omega
          have hco := hown.cell J (by rw [nn_len]; omega)
          rw [nn_get] at hco
          have hfz := hown.frozen J
          have hos : O.getD J 0 < D10 := hO.out.2.1 J
          have hsmO := Lib.hid hO.out.2.1
          generalize ys.getD k 0 = y at *
          generalize O.getD J 0 = o at *
          have hxy := mul_lt_T (a := x) (b := y) hxs.out hys
          obtain ⟨P, hP⟩ : ∃ P, P = x * y := ⟨_, rfl⟩
          have p1 : (x : Int) * (y : Int) = (P : Int) := by rw [hP, Int.natCast_mul]
          rw [← hP] at hxy hkey
          have d10 : D10 = 10000 := rfl
          rw [d10] at hxy hos hys
          obtain ⟨Q, hQ⟩ : ∃ Q, Q = P + o := ⟨_, rfl⟩
          have p2 : (o : Int) + (P : Int) = (Q : Int) := by omega
          obtain ⟨R, hR⟩ : ∃ R, R = cc + Q := ⟨_, rfl⟩
          have p3 : (Q : Int) + (cc : Int) = (R : Int) := by omega
          rw [← hQ, ← hR] at hkey
          have hRb : R < 100000000 := by omega
          have r1 : Int.tmod (R : Int) 10000 = ((R % D10 : Nat) : Int) := by rw [Int.tmod_eq_emod_of_nonneg (by omega)]; simp [D10]
          have r2 : Int.tdiv (R : Int) 10000 = ((R / D10 : Nat) : Int) := by rw [Int.tdiv_eq_ediv_of_nonneg (by omega)]; simp [D10]
          have hlo : R % D10 < D10 := Nat.mod_lt _ D10_pos
          have hhi : R / D10 < 10000 := Nat.div_lt_of_lt_mul (by rw [d10]; omega)
          have hkey2 : Hid (∀ lo hi, lo = R % D10 → hi = R / D10 → valTd (O.set J lo) (n + m) + hi * D10 ^ (i + (k + 1)) = valTd xs i * v + x * valTd ys (k + 1) * D10 ^ i) := fun lo hi h1 h2 => by rw [h1, h2]; exact hkey.out
          have hkey4 := Lib.hid (hkey2.out _ _ rfl rfl)
          generalize R % D10 = lo at *
          generalize R / D10 = hi at *
          have hlo2 := Lib.hid hlo
          have hp9 : P < 100000000 := by omega
          have hq9 : Q < 100000000 := by omega
          clear hown hb hwy hkey hkey2 hO hys2 hP hQ hR hJ hlo
          go_wp2
          go_quiet (fail)
          go_wp2
          have hset : Own ((wr.drewN nq).setCell ⟨w.heap.size, J, none⟩ (.int .i64 (lo : Int))) w.heap.size (nn (O.set J lo)) := by
            rw [← nn_set]
            exact (HOO.out.drewN nq).set_ J (lo : Int)
          exact ⟨⟨k + 1, O.set J lo, hi, by omega, by go_num, rfl, hhi, hset, ⟨by rw [List.length_set]; exact hOl, smallT_set hsmO.out J lo (by omega) hlo2.out, hkey4.out, hzero.out lo⟩, (below_drewN HB.out nq).setCell (Nat.le_refl _) _⟩, by simp [intOf]; omega⟩
        · obtain rfl : k = m := by omega
          obtain ⟨J, hJ⟩ : ∃ J, J = i + k := ⟨_, rfl⟩
          have eJ : (i : Int) + (k : Int) = (J : Int) := by omega
          have hJ2 : J < n + k := by omega
          have hco := hown.cell J (by rw [nn_len]; omega)
          have hfz := hown.frozen J
          have hfin : Hid ((O.set J cc).length = n + k ∧ SmallT (O.set J cc) ∧ valTd (O.set J cc) (n + k) = valTd xs (i + 1) * v ∧ ∀ j, i + 1 + k ≤ j → (O.set J cc).getD j 0 = 0) := by
            refine ⟨by rw [List.length_set]; exact hOl, smallT_set hO.out.2.1 J cc (by omega) hcc, ?_, fun j hj => ?_⟩
            · have h1 := valTd_set O J cc (n + k) (by omega) hJ2
              rw [hO.out.2.2.2 J (by omega), Nat.zero_mul, Nat.add_zero] at h1
              rw [h1, hJ, hO.out.2.2.1, HYV.out]
              exact hnext.out
            · rw [getN_setT _ _ _ _ (by omega), if_neg (by omega)]; exact hO.out.2.2.2 j (by omega)
          have hset : Hid (Own (wr.setCell ⟨w.heap.size, J, none⟩ (.int .i64 (cc : Int))) w.heap.size (nn (O.set J cc))) := by
            rw [← nn_set]
            exact HOO.out.set_ J (cc : Int)
          clear hown hb hwy hO hJ
          go_wp2
          go_roundw
          case rel => exact ⟨i + 1, O.set J cc, by omega, by go_num, hset.out, hfin.out, HB.out.setCell (Nat.le_refl _) _⟩
          case measure => simp [intOf]; omega
    · obtain rfl : i = n := by omega
      have hval : valT O = u * v := by
        unfold valT
        rw [hO.out.1, hO.out.2.2.1, HXV.out]
      have hi9 : Ints wr (some ⟨w.heap.size, 0, none⟩) O.length (nn O) := hown.ints' (nn_len O) (by rw [hO.out.1]; omega)
      have k83 := Lib.hid (f83_any _ O (i + m) wr hi9 hO.out.2.1 (by rw [hO.out.1]; omega))
      rw [hval, hO.out.1] at k83
      have HSZ := Lib.hid hb.size
      clear hown hb hwx hval hO hi9
      go_wp2_with fail
      refine k83.out.mono ?_
      rintro e w2 ⟨v2, es, rfl, hr2, hl2, hs2, hn2, hv2, hb2⟩
      have R2 : Hid (SlD w (u * v) (.returned v2) w2) := ⟨v2, es, rfl, hr2.mono HSZ.out, hl2, hs2, hn2, hv2, below_step HB.out hb2⟩
      clear hr2 hl2 hs2 hn2 hv2 hb2
      go_wp2
      go_ret
      exact R2.out
end Go.Proofs.Ytfaenbaaadjbbaa
