/- Walks: times. -/
import Derived.Test.YtfaenbaaadjbbaaW14
namespace Go.Proofs.Ytfaenbaaadjbbaa
open Go.RowKit

/-- A new number in digits came back. -/
def NumNew (w : World) (x : Nat) (e : Ending) (w' : World) : Prop := ∃ A' k c', e = .returned (.slice A' k c') ∧ Num w' A' k x ∧ k ≤ c' ∧ Below w.heap.size w w'
theorem num_small {w : World} {A : Option Addr} {n v : Nat} (h : Num w A n v) (hn : n ≤ 2) : v < W32 * W32 := by
  obtain ⟨ds, h1, _, h3⟩ := h
  rw [← h3]
  have := valW_lt h1.small
  rw [h1.len] at this
  have h2 : W32 ^ n ≤ W32 ^ 2 := Nat.pow_le_pow_right W32_pos hn
  have e : W32 ^ 2 = W32 * W32 := by rw [Nat.pow_succ, Nat.pow_one]
  omega
set_option maxRecDepth 100000 in
set_option maxHeartbeats 2000000 in
theorem f118_small (A B : Option Addr) (n c m d u v : Nat) (w : World) (hs : Num w A n u) (ho : Num w B m v) (hn : n ≤ 2) (hm : m ≤ 2) :
    Calls Try.prog 118 #[.slice A n c, .slice B m d] w (NumNew w (u * v)) := by
  have hu := num_small hs hn
  have hv := num_small ho hm
  have k1 := Lib.hid (f122_any A n c u w hs)
  have k2 := Lib.hid (fun q => f122_any B m d v (w.drewN q) (ho.drewN q))
  rw [if_pos hn, decide_eq_true hn] at k1
  rw [if_pos hm, decide_eq_true hm] at k2
  have k87 := Lib.hid (fun w => f87_any u v w hu hv)
  have hsp := Nat.div_add_mod (u * v) (W32 * W32)
  have hH : u * v / (W32 * W32) < W32 * W32 := by
    apply Nat.div_lt_of_lt_mul
    exact Nat.mul_lt_mul'' hu hv
  have hL : u * v % (W32 * W32) < W32 * W32 := Nat.mod_lt _ (by decide)
  generalize u * v / (W32 * W32) = H at *
  generalize u * v % (W32 * W32) = L at *
  have sH := split32 H
  have sL := split32 L
  have e1 := lo32 L
  have e2 := hi32 L
  have e3 := lo32 H
  have e4 := hi32 H
  have b1 : L % W32 < 4294967296 := Nat.mod_lt _ W32_pos
  have b2 : L / W32 < 4294967296 := Nat.div_lt_of_lt_mul hL
  have b3 : H % W32 < 4294967296 := Nat.mod_lt _ W32_pos
  have b4 : H / W32 < 4294967296 := Nat.div_lt_of_lt_mul hH
  have hval : Hid (valW [L % W32, L / W32, H % W32, H / W32] = u * v) := by
    rw [val4, ← hsp]
    have e5 : W32 ^ 2 = W32 * W32 := by rw [Nat.pow_succ, Nat.pow_one]
    have e6 : W32 ^ 3 = W32 * (W32 * W32) := by rw [Nat.pow_succ, Nat.pow_succ, Nat.pow_one]; ac_rfl
    rw [e5, e6]
    have e7 : H / W32 * (W32 * (W32 * W32)) = H / W32 * W32 * (W32 * W32) := by rw [Nat.mul_assoc]
    rw [e7]
    have e8 : W32 * W32 * H = (H / W32 * W32 + H % W32) * (W32 * W32) := by rw [← sH, Nat.mul_comm]
    rw [e8, Nat.add_mul]
    unfold Hid; omega
  have m2 := mod32 (L / W32) b2
  have m4 := mod32 (H / W32) b4
  have hL64 : L < 18446744073709551616 := hL
  have hH64 : H < 18446744073709551616 := hH
  generalize L % W32 = l0 at *
  generalize L / W32 = l1 at *
  generalize H % W32 = h0 at *
  generalize H / W32 = h1 at *
  have hsm : Hid (Small [l0, l1, h0, h1]) := fun j => by
    match j with
    | 0 => exact b1
    | 1 => exact b2
    | 2 => exact b3
    | 3 => exact b4
    | j + 4 => exact W32_pos
  have k119 : Hid (∀ w : World, Calls Try.prog 119 #[.slice (some ⟨w.heap.size, 0, none⟩) 4 4] (w.alloc (.cells #[.int .u32 (l0 : Int), .int .u32 (l1 : Int), .int .u32 (h0 : Int), .int .u32 (h1 : Int)] 108)) fun e w' => ∃ k, e = .returned (.slice (some ⟨w.heap.size, 0, none⟩) k 4) ∧ Num (w.alloc (.cells #[.int .u32 (l0 : Int), .int .u32 (l1 : Int), .int .u32 (h0 : Int), .int .u32 (h1 : Int)] 108)) (some ⟨w.heap.size, 0, none⟩) k (u * v) ∧ k ≤ 4 ∧ w.alloc (.cells #[.int .u32 (l0 : Int), .int .u32 (l1 : Int), .int .u32 (h0 : Int), .int .u32 (h1 : Int)] 108) = w') := fun w => by
    have := f119_any _ 4 4 _ _ ((OwnW.lit w [l0, l1, h0, h1]).words (by simp) hsm.out) (Nat.le_refl _)
    rw [hval.out] at this
    exact this
  clear hs ho hsp hH hL sH sL hval hsm hu hv b2 b4 hn hm
  go_enter Try.func118, Try.ntmps118
  go_wp2_with fail
  refine k1.out.mono ?_
  rintro e w' ⟨rfl, q1, rfl⟩
  go_wp2_with fail
  refine (k2.out _).mono ?_
  rintro e w' ⟨rfl, q2, rfl⟩
  go_wp2_with fail
  refine (k87.out _).mono ?_
  rintro e w' ⟨rfl, rfl⟩
  go_wp2_with fail
  refine (k119.out _).mono ?_
  rintro e w' ⟨k, rfl, hnum, hk, rfl⟩
  have HN := Lib.hid hnum
  clear hnum
  go_wp2
  go_ret
  exact ⟨_, _, _, rfl, HN.out, hk, below_step (below_drewN (Below.refl _ _) _) (below_alloc _ _)⟩

set_option maxRecDepth 100000 in
set_option maxHeartbeats 4000000 in
/-- big.times, digit by digit: from where the row of zeros is made -/
theorem f118_great (A B : Option Addr) (n c m d u v : Nat) (w : World) (hs : Num w A n u) (ho : Num w B m v) (hn : n ≤ 4000) (hm : m ≤ 4000) (hbig : 2 < n ∨ 2 < m) :
    Calls Try.prog 118 #[.slice A n c, .slice B m d] w (NumNew w (u * v)) := by
  have k1 := Lib.hid (f122_any A n c u w hs)
  have k2 := Lib.hid (fun q => f122_any B m d v (w.drewN q) (ho.drewN q))
  obtain ⟨xs, hx, _, hxv⟩ := hs
  obtain ⟨ys, hy, _, hyv⟩ := ho
  have HL1 := Lib.hid hx.len
  have HL2 := Lib.hid hy.len
  have HXV : Hid (valTo xs n = u) := by rw [← hxv]; unfold valW; rw [HL1.out]; rfl
  have HYV : Hid (valTo ys m = v) := by rw [← hyv]; unfold valW; rw [HL2.out]; rfl
  have HX := Lib.hid hx
  have HY := Lib.hid hy
  have hmk : Hid (∀ W : World, (Instr.makeSlice 131 (.int .i64 ((n : Int) + (m : Int))) (.int .i64 ((n : Int) + (m : Int)))).run Try.prog W =
    .ok (.slice (some ⟨W.heap.size, 0, none⟩) (n + m) (n + m)) (W.alloc (.cells ((List.replicate (n + m) (0 : Nat)).map fun (d : Nat) => Value.int .u32 (d : Int)).toArray 108))) := fun W => by
    have := make_words (n + m) (by omega) W
    rw [Int.natCast_add] at this
    exact this
  have hHG : Hid (∀ (W : World), Below w.heap.size w W → ∀ A k c', Num W A k (u * v) → k ≤ c' → NumNew w (u * v) (.returned (.slice A k c')) W) := fun W h1 A k c' h2 h3 => ⟨_, _, _, rfl, h2, h3, h1⟩
  have hpow : Hid (∀ j, valTo xs j * v + xs.getD j 0 * v * W32 ^ j = valTo xs (j + 1) * v) := fun j => by
    show _ = (valTo xs j + xs.getD j 0 * W32 ^ j) * v
    rw [Nat.add_mul]; congr 1; ac_rfl
  clear hx hy hxv hyv
  by_cases hn2 : n ≤ 2
  · have hm2 : ¬ m ≤ 2 := by omega
    rw [if_pos hn2, decide_eq_true hn2] at k1
    rw [if_neg hm2, decide_eq_false hm2] at k2
    clear hn2 hm2 hbig
    go_enter Try.func118, Try.ntmps118
    go_wp2_with fail
    refine k1.out.mono ?_
    rintro e w' ⟨rfl, q1, rfl⟩
    go_wp2_with fail
    refine (k2.out _).mono ?_
    rintro e w' ⟨rfl, q2, rfl⟩
    have hM := hmk.out (w.drewN (q1 + q2))
    obtain ⟨w1, hw1⟩ : ∃ w1, w1 = (w.drewN (q1 + q2)).alloc (.cells ((List.replicate (n + m) (0 : Nat)).map fun (d : Nat) => Value.int .u32 (d : Int)).toArray 108) := ⟨_, rfl⟩
    rw [← hw1] at hM
    have B1 : Hid (Below w.heap.size w w1) := by rw [hw1]; exact below_step (below_drewN (Below.refl _ _) _) (below_alloc _ _)
    have HO : Hid (OwnW w1 w.heap.size (List.replicate (n + m) 0)) := by rw [hw1]; exact OwnW.lit (w.drewN (q1 + q2)) _
    clear hw1
    go_wp2
    go_loopw [12, 13, 14, 15, 16, 55] (fun _ _ _ _ _ i wr => ∃ (k : Nat) (O : List Nat), k ≤ n ∧ i = .int .i64 (k : Int) ∧ OwnW wr w.heap.size O ∧ Hid (O.length = n + m ∧ Small O ∧ valTo O (n + m) = valTo xs k * v ∧ ∀ j, k + m ≤ j → O.getD j 0 = 0) ∧ Below w.heap.size w wr) (fun _ _ _ _ _ i _ => n - (intOf i).toNat)
    case atStart => exact ⟨0, _, by omega, rfl, HO.out, ⟨by simp, small_zeros _, by rw [valTo_zeros (Nat.zero_le _) (fun j _ _ => zeros_get _ _)]; simp [valTo], fun j _ => zeros_get _ _⟩, B1.out⟩
    case round => as_aux_lemma =>
      obtain ⟨i, O, hi, rfl, hown, hO, hb⟩ := hrel
      have HOO := Lib.hid hown
      have HB := Lib.hid hb
      have hwx := HX.out.below hb
      by_cases hlt : i < n
      · obtain ⟨bx, ox, rfl, hcx⟩ := hwx.at_ hlt
        have hxs : xs.getD i 0 < 4294967296 := hwx.small i
        have hnext := Lib.hid (hpow.out i)
        generalize xs.getD i 0 = x at *
        have hstart : Hid (O.length = n + m ∧ Small O ∧ valTo O (n + m) + 0 * W32 ^ (i + 0) = valTo xs i * v + x * valTo ys 0 * W32 ^ i ∧ ∀ j, i + m ≤ j → O.getD j 0 = 0) := ⟨hO.out.1, hO.out.2.1, by rw [hO.out.2.2.1]; simp [valTo], hO.out.2.2.2⟩
        clear hown hb hwx hO
        go_wp2
        go_loopw [14, 15, 16, 62] (fun cy _ _ j wr => ∃ (k : Nat) (O : List Nat) (cc : Nat), k ≤ m ∧ j = .int .i64 (k : Int) ∧ cy = .int .u64 (cc : Int) ∧ cc < 4294967296 ∧ OwnW wr w.heap.size O ∧ Hid (O.length = n + m ∧ Small O ∧ valTo O (n + m) + cc * W32 ^ (i + k) = valTo xs i * v + x * valTo ys k * W32 ^ i ∧ ∀ j, i + m ≤ j → O.getD j 0 = 0) ∧ Below w.heap.size w wr) (fun _ _ _ j _ => m - (intOf j).toNat)
        case atStart => exact ⟨0, O, 0, by omega, rfl, rfl, by omega, HOO.out, hstart.out, HB.out⟩
        case round => as_aux_lemma =>
          obtain ⟨k, O, cc, hk, rfl, rfl, hcc, hown, hO, hb⟩ := hrel
          have HOO := Lib.hid hown
          have HB := Lib.hid hb
          have hwy := HY.out.below hb
          have hOl := hO.out.1
          by_cases hlt2 : k < m
          · obtain ⟨by_, oy, rfl, hcy⟩ := hwy.at_ hlt2
            have hys : ys.getD k 0 < 4294967296 := hwy.small k
            have hkey := Lib.hid (mul_step (L := n + m) (b := ys.getD k 0) (by rw [hOl]; omega) (by omega) hO.out.2.2.1)
            have hys2 : Hid (valTo ys k + ys.getD k 0 * W32 ^ k = valTo ys (k + 1)) := rfl
            rw [hys2.out] at hkey
            have hzero : Hid (∀ z, ∀ j, i + m ≤ j → (O.set (i + k) z).getD j 0 = 0) := fun z j hj => by
              rw [getD_set _ _ _ _ (by omega), if_neg (by omega)]; exact hO.out.2.2.2 j hj
            obtain ⟨J, hJ⟩ : ∃ J, J = i + k := ⟨_, rfl⟩
            have eJ : (i : Int) + (k : Int) = (J : Int) := by omega
            rw [← hJ] at hkey hzero
            have hJ2 : J < n + m := by omega
            have hco := hown.cell J (by omega)
            have hfz := hown.frozen J
            have hos : O.getD J 0 < 4294967296 := hO.out.2.1 J
            have hsmO := Lib.hid hO.out.2.1
            generalize ys.getD k 0 = y at *
            generalize O.getD J 0 = o at *
            have hxy := mul_lt_W (a := x) (b := y) hxs hys
            obtain ⟨P, hP⟩ : ∃ P, P = x * y := ⟨_, rfl⟩
            have p1 : (x : Int) * (y : Int) = (P : Int) := by rw [hP, Int.natCast_mul]
            rw [← hP] at hxy hkey
            have w32 : W32 = 4294967296 := rfl
            rw [w32] at hxy
            obtain ⟨Q, hQ⟩ : ∃ Q, Q = P + o := ⟨_, rfl⟩
            have p2 : (P : Int) + (o : Int) = (Q : Int) := by omega
            obtain ⟨R, hR⟩ : ∃ R, R = cc + Q := ⟨_, rfl⟩
            have p3 : (cc : Int) + (Q : Int) = (R : Int) := by omega
            rw [← hQ, ← hR] at hkey
            have hRb : R < 18446744073709551616 := by omega
            have r1 := lo32 R
            have r2 := hi32 R
            have hlo : R % W32 < W32 := Nat.mod_lt _ W32_pos
            have hhi : R / W32 < 4294967296 := Nat.div_lt_of_lt_mul (by rw [w32]; omega)
            have hkey2 : Hid (∀ lo hi, lo = R % W32 → hi = R / W32 → valTo (O.set J lo) (n + m) + hi * W32 ^ (i + (k + 1)) = valTo xs i * v + x * valTo ys (k + 1) * W32 ^ i) := fun lo hi h1 h2 => by rw [h1, h2]; exact hkey.out
            have hkey4 := Lib.hid (hkey2.out _ _ rfl rfl)
            generalize R % W32 = lo at *
            generalize R / W32 = hi at *
            clear hown hb hwy hkey hkey2 hO hys2 hP hQ hR w32 hJ
            go_wp2
            go_roundw
            case rel => exact ⟨k + 1, O.set J lo, hi, by omega, by go_num, rfl, hhi, HOO.out.set_ J lo, ⟨by rw [List.length_set]; exact hOl, small_set hsmO.out J lo (by omega) hlo, hkey4.out, hzero.out lo⟩, HB.out.setCell (Nat.le_refl _) _⟩
            case measure => simp [intOf]; omega
          · obtain rfl : k = m := by omega
            obtain ⟨J, hJ⟩ : ∃ J, J = i + k := ⟨_, rfl⟩
            have eJ : (i : Int) + (k : Int) = (J : Int) := by omega
            have hJ2 : J < n + k := by omega
            have hco := hown.cell J (by omega)
            have hfz := hown.frozen J
            have r1 := mod32 cc hcc
            have hfin : Hid ((O.set J cc).length = n + k ∧ Small (O.set J cc) ∧ valTo (O.set J cc) (n + k) = valTo xs (i + 1) * v ∧ ∀ j, i + 1 + k ≤ j → (O.set J cc).getD j 0 = 0) := by
              refine ⟨by rw [List.length_set]; exact hOl, small_set hO.out.2.1 J cc (by omega) hcc, ?_, fun j hj => ?_⟩
              · have h1 := valTo_set O J cc (n + k) (by omega) hJ2
                rw [hO.out.2.2.2 J (by omega), Nat.zero_mul, Nat.add_zero] at h1
                rw [h1, hJ, hO.out.2.2.1, HYV.out]
                exact hnext.out
              · rw [getD_set _ _ _ _ (by omega), if_neg (by omega)]; exact hO.out.2.2.2 j (by omega)
            have hq1 : decide ((k : Int) < (k : Int)) = false := by simp
            clear hown hb hwy hO hJ
            go_wp2
            go_roundw
            case rel => exact ⟨i + 1, O.set J cc, by omega, by go_num, HOO.out.set_ J cc, hfin.out, HB.out.setCell (Nat.le_refl _) _⟩
            case measure => simp [intOf]; omega
      · obtain rfl : i = n := by omega
        have hval : Hid (valW O = u * v) := by
          unfold valW
          rw [hO.out.1, hO.out.2.2.1, HXV.out]
          rfl
        have hw : Hid (Words wr (some ⟨w.heap.size, 0, none⟩) (i + m) O) := by
          have h1 := hown.words (by rw [hO.out.1]; omega) hO.out.2.1
          rw [hO.out.1] at h1
          exact h1
        have k119 := Lib.hid (f119_any _ (i + m) (i + m) _ _ hw.out (Nat.le_refl _))
        rw [hval.out] at k119
        clear hown hb hwx hw hval hO
        go_wp2_with fail
        refine k119.out.mono ?_
        rintro e w2 ⟨q, rfl, hnum, hq2, rfl⟩
        have HN := Lib.hid hnum
        clear hnum
        go_wp2
        go_ret
        exact hHG.out _ HB.out _ _ _ HN.out hq2
  · rw [if_neg hn2, decide_eq_false hn2] at k1
    clear hn2 hbig
    go_enter Try.func118, Try.ntmps118
    go_wp2_with fail
    refine k1.out.mono ?_
    rintro e w' ⟨rfl, q1, rfl⟩
    have hM := hmk.out (w.drewN q1)
    obtain ⟨w1, hw1⟩ : ∃ w1, w1 = (w.drewN q1).alloc (.cells ((List.replicate (n + m) (0 : Nat)).map fun (d : Nat) => Value.int .u32 (d : Int)).toArray 108) := ⟨_, rfl⟩
    rw [← hw1] at hM
    have B1 : Hid (Below w.heap.size w w1) := by rw [hw1]; exact below_step (below_drewN (Below.refl _ _) _) (below_alloc _ _)
    have HO : Hid (OwnW w1 w.heap.size (List.replicate (n + m) 0)) := by rw [hw1]; exact OwnW.lit (w.drewN q1) _
    clear hw1
    go_wp2
    go_loopw [12, 13, 14, 15, 16, 55] (fun _ _ _ _ _ i wr => ∃ (k : Nat) (O : List Nat), k ≤ n ∧ i = .int .i64 (k : Int) ∧ OwnW wr w.heap.size O ∧ Hid (O.length = n + m ∧ Small O ∧ valTo O (n + m) = valTo xs k * v ∧ ∀ j, k + m ≤ j → O.getD j 0 = 0) ∧ Below w.heap.size w wr) (fun _ _ _ _ _ i _ => n - (intOf i).toNat)
    case atStart => exact ⟨0, _, by omega, rfl, HO.out, ⟨by simp, small_zeros _, by rw [valTo_zeros (Nat.zero_le _) (fun j _ _ => zeros_get _ _)]; simp [valTo], fun j _ => zeros_get _ _⟩, B1.out⟩
    case round => as_aux_lemma =>
      obtain ⟨i, O, hi, rfl, hown, hO, hb⟩ := hrel
      have HOO := Lib.hid hown
      have HB := Lib.hid hb
      have hwx := HX.out.below hb
      by_cases hlt : i < n
      · obtain ⟨bx, ox, rfl, hcx⟩ := hwx.at_ hlt
        have hxs : xs.getD i 0 < 4294967296 := hwx.small i
        have hnext := Lib.hid (hpow.out i)
        generalize xs.getD i 0 = x at *
        have hstart : Hid (O.length = n + m ∧ Small O ∧ valTo O (n + m) + 0 * W32 ^ (i + 0) = valTo xs i * v + x * valTo ys 0 * W32 ^ i ∧ ∀ j, i + m ≤ j → O.getD j 0 = 0) := ⟨hO.out.1, hO.out.2.1, by rw [hO.out.2.2.1]; simp [valTo], hO.out.2.2.2⟩
        clear hown hb hwx hO
        go_wp2
        go_loopw [14, 15, 16, 62] (fun cy _ _ j wr => ∃ (k : Nat) (O : List Nat) (cc : Nat), k ≤ m ∧ j = .int .i64 (k : Int) ∧ cy = .int .u64 (cc : Int) ∧ cc < 4294967296 ∧ OwnW wr w.heap.size O ∧ Hid (O.length = n + m ∧ Small O ∧ valTo O (n + m) + cc * W32 ^ (i + k) = valTo xs i * v + x * valTo ys k * W32 ^ i ∧ ∀ j, i + m ≤ j → O.getD j 0 = 0) ∧ Below w.heap.size w wr) (fun _ _ _ j _ => m - (intOf j).toNat)
        case atStart => exact ⟨0, O, 0, by omega, rfl, rfl, by omega, HOO.out, hstart.out, HB.out⟩
        case round => as_aux_lemma =>
          obtain ⟨k, O, cc, hk, rfl, rfl, hcc, hown, hO, hb⟩ := hrel
          have HOO := Lib.hid hown
          have HB := Lib.hid hb
          have hwy := HY.out.below hb
          have hOl := hO.out.1
          by_cases hlt2 : k < m
          · obtain ⟨by_, oy, rfl, hcy⟩ := hwy.at_ hlt2
            have hys : ys.getD k 0 < 4294967296 := hwy.small k
            have hkey := Lib.hid (mul_step (L := n + m) (b := ys.getD k 0) (by rw [hOl]; omega) (by omega) hO.out.2.2.1)
            have hys2 : Hid (valTo ys k + ys.getD k 0 * W32 ^ k = valTo ys (k + 1)) := rfl
            rw [hys2.out] at hkey
            have hzero : Hid (∀ z, ∀ j, i + m ≤ j → (O.set (i + k) z).getD j 0 = 0) := fun z j hj => by
              rw [getD_set _ _ _ _ (by omega), if_neg (by omega)]; exact hO.out.2.2.2 j hj
            obtain ⟨J, hJ⟩ : ∃ J, J = i + k := ⟨_, rfl⟩
            have eJ : (i : Int) + (k : Int) = (J : Int) := by omega
            rw [← hJ] at hkey hzero
            have hJ2 : J < n + m := by omega
            have hco := hown.cell J (by omega)
            have hfz := hown.frozen J
            have hos : O.getD J 0 < 4294967296 := hO.out.2.1 J
            have hsmO := Lib.hid hO.out.2.1
            generalize ys.getD k 0 = y at *
            generalize O.getD J 0 = o at *
            have hxy := mul_lt_W (a := x) (b := y) hxs hys
            obtain ⟨P, hP⟩ : ∃ P, P = x * y := ⟨_, rfl⟩
            have p1 : (x : Int) * (y : Int) = (P : Int) := by rw [hP, Int.natCast_mul]
            rw [← hP] at hxy hkey
            have w32 : W32 = 4294967296 := rfl
            rw [w32] at hxy
            obtain ⟨Q, hQ⟩ : ∃ Q, Q = P + o := ⟨_, rfl⟩
            have p2 : (P : Int) + (o : Int) = (Q : Int) := by omega
            obtain ⟨R, hR⟩ : ∃ R, R = cc + Q := ⟨_, rfl⟩
            have p3 : (cc : Int) + (Q : Int) = (R : Int) := by omega
            rw [← hQ, ← hR] at hkey
            have hRb : R < 18446744073709551616 := by omega
            have r1 := lo32 R
            have r2 := hi32 R
            have hlo : R % W32 < W32 := Nat.mod_lt _ W32_pos
            have hhi : R / W32 < 4294967296 := Nat.div_lt_of_lt_mul (by rw [w32]; omega)
            have hkey2 : Hid (∀ lo hi, lo = R % W32 → hi = R / W32 → valTo (O.set J lo) (n + m) + hi * W32 ^ (i + (k + 1)) = valTo xs i * v + x * valTo ys (k + 1) * W32 ^ i) := fun lo hi h1 h2 => by rw [h1, h2]; exact hkey.out
            have hkey4 := Lib.hid (hkey2.out _ _ rfl rfl)
            generalize R % W32 = lo at *
            generalize R / W32 = hi at *
            clear hown hb hwy hkey hkey2 hO hys2 hP hQ hR w32 hJ
            go_wp2
            go_roundw
            case rel => exact ⟨k + 1, O.set J lo, hi, by omega, by go_num, rfl, hhi, HOO.out.set_ J lo, ⟨by rw [List.length_set]; exact hOl, small_set hsmO.out J lo (by omega) hlo, hkey4.out, hzero.out lo⟩, HB.out.setCell (Nat.le_refl _) _⟩
            case measure => simp [intOf]; omega
          · obtain rfl : k = m := by omega
            obtain ⟨J, hJ⟩ : ∃ J, J = i + k := ⟨_, rfl⟩
            have eJ : (i : Int) + (k : Int) = (J : Int) := by omega
            have hJ2 : J < n + k := by omega
            have hco := hown.cell J (by omega)
            have hfz := hown.frozen J
            have r1 := mod32 cc hcc
            have hfin : Hid ((O.set J cc).length = n + k ∧ Small (O.set J cc) ∧ valTo (O.set J cc) (n + k) = valTo xs (i + 1) * v ∧ ∀ j, i + 1 + k ≤ j → (O.set J cc).getD j 0 = 0) := by
              refine ⟨by rw [List.length_set]; exact hOl, small_set hO.out.2.1 J cc (by omega) hcc, ?_, fun j hj => ?_⟩
              · have h1 := valTo_set O J cc (n + k) (by omega) hJ2
                rw [hO.out.2.2.2 J (by omega), Nat.zero_mul, Nat.add_zero] at h1
                rw [h1, hJ, hO.out.2.2.1, HYV.out]
                exact hnext.out
              · rw [getD_set _ _ _ _ (by omega), if_neg (by omega)]; exact hO.out.2.2.2 j (by omega)
            have hq1 : decide ((k : Int) < (k : Int)) = false := by simp
            clear hown hb hwy hO hJ
            go_wp2
            go_roundw
            case rel => exact ⟨i + 1, O.set J cc, by omega, by go_num, HOO.out.set_ J cc, hfin.out, HB.out.setCell (Nat.le_refl _) _⟩
            case measure => simp [intOf]; omega
      · obtain rfl : i = n := by omega
        have hval : Hid (valW O = u * v) := by
          unfold valW
          rw [hO.out.1, hO.out.2.2.1, HXV.out]
          rfl
        have hw : Hid (Words wr (some ⟨w.heap.size, 0, none⟩) (i + m) O) := by
          have h1 := hown.words (by rw [hO.out.1]; omega) hO.out.2.1
          rw [hO.out.1] at h1
          exact h1
        have k119 := Lib.hid (f119_any _ (i + m) (i + m) _ _ hw.out (Nat.le_refl _))
        rw [hval.out] at k119
        clear hown hb hwx hw hval hO
        go_wp2_with fail
        refine k119.out.mono ?_
        rintro e w2 ⟨q, rfl, hnum, hq2, rfl⟩
        have HN := Lib.hid hnum
        clear hnum
        go_wp2
        go_ret
        exact hHG.out _ HB.out _ _ _ HN.out hq2
/-- big.times -/
theorem f118_any (A B : Option Addr) (n c m d u v : Nat) (w : World) (hs : Num w A n u) (ho : Num w B m v) (hn : n ≤ 4000) (hm : m ≤ 4000) :
    Calls Try.prog 118 #[.slice A n c, .slice B m d] w (NumNew w (u * v)) := by
  by_cases h : n ≤ 2 ∧ m ≤ 2
  · exact f118_small A B n c m d u v w hs ho h.1 h.2
  · exact f118_great A B n c m d u v w hs ho hn hm (by omega)
end Go.Proofs.Ytfaenbaaadjbbaa
