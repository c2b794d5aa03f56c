/- Walks: digits of great numbers: plus, minus. -/
import Derived.Test.YtfaenbaaadjbbaaW12
namespace Go.Proofs.Ytfaenbaaadjbbaa
open Go.RowKit

theorem OwnW.far {w : World} {g : Nat} {ds : List Nat} (h : OwnW w g ds) {p : Addr} (hp : g ≠ p.block) (u : Value) : OwnW (w.setCell p u) g ds := (Below.heap_setCell w p u g hp).trans h
theorem getD_beyond {ds : List Nat} {j : Nat} (h : ds.length ≤ j) : ds.getD j 0 = 0 := by simp [List.getD_eq_getElem?_getD, h]
set_option maxRecDepth 100000 in
set_option maxHeartbeats 4000000 in
/-- big.plus, the longer one first -/
theorem f114_long (A B : Option Addr) (n c m d u v : Nat) (w : World) (hs : Num w A n u) (ho : Num w B m v) (hnm : m ≤ n) (hn : n ≤ 5000) :
    Calls Try.prog 114 #[.slice A n c, .slice B m d] w fun e w' => ∃ A' k c', e = .returned (.slice A' k c') ∧ Num w' A' k (u + v) ∧ k ≤ c' ∧ Below w.heap.size w w' := by
  obtain ⟨xs, hx, hxn, hxv⟩ := hs
  obtain ⟨ys, hy, hyn, hyv⟩ := ho
  have HL1 := Lib.hid hx.len
  have HL2 := Lib.hid hy.len
  have hmk := make_words (n + 1) (by omega) w
  have enc : (((n + 1 : Nat) : Int)) = (n : Int) + 1 := by omega
  rw [enc] at hmk
  obtain ⟨w1, hw1⟩ : ∃ w1, w1 = w.alloc (.cells ((List.replicate (n + 1) (0 : Nat)).map fun (d : Nat) => Value.int .u32 (d : Int)).toArray 108) := ⟨_, rfl⟩
  rw [← hw1] at hmk
  have b1 : Below w.heap.size w w1 := by rw [hw1]; exact below_alloc _ _
  have HX := Lib.hid hx
  have HY := Lib.hid hy
  have HO : Hid (OwnW w1 w.heap.size (List.replicate (n + 1) 0)) := by rw [hw1]; exact OwnW.lit _ _
  have B1 := Lib.hid b1
  have HXV : Hid (valTo xs n = u) := by rw [← hxv]; unfold valW; rw [HL1.out]; rfl
  have HYV : Hid (valTo ys n = v) := by rw [← hyv]; exact valTo_ge (by rw [HL2.out]; exact hnm)
  have hq : decide ((n : Int) < (m : Int)) = false := by simp; omega
  have hq' : decide (n < m) = false := by simp; omega
  clear hx hy hxn hyn hxv hyv hw1 b1 enc
  go_enter Try.func114, Try.ntmps114
  go_wp2
  go_loopw [6, 7, 21] (fun cy _ i wr => ∃ (k : Nat) (O : List Nat) (cc : Nat), k ≤ n ∧ i = .int .i64 (k : Int) ∧ cy = .int .u64 (cc : Int) ∧ cc ≤ 1 ∧ OwnW wr w.heap.size O ∧ Hid (O.length = n + 1 ∧ Small O ∧ valTo O k + cc * W32 ^ k = valTo xs k + valTo ys k) ∧ Below w.heap.size w wr) (fun _ _ i _ => n - (intOf i).toNat)
  case atStart => exact ⟨0, _, 0, by omega, rfl, rfl, by omega, HO.out, ⟨by simp, small_zeros _, rfl⟩, B1.out⟩
  case round => as_aux_lemma =>
    obtain ⟨k, O, cc, hk, rfl, rfl, hcc, hown, hO, hb⟩ := hrel
    have HOO := Lib.hid hown
    have HB := Lib.hid hb
    have hwx := HX.out.below hb
    have hwy := HY.out.below hb
    have hOl := hO.out.1
    by_cases hlt : k < n
    · obtain ⟨bx, ox, rfl, hcx⟩ := hwx.at_ hlt
      have hxs : xs.getD k 0 < 4294967296 := hwx.small k
      have hfz := hown.frozen k
      have hco := hown.cell k (by omega)
      have hkey : Hid (∀ y, ys.getD k 0 = y → valTo (O.set k ((cc + xs.getD k 0 + y) % W32)) (k + 1) + (cc + xs.getD k 0 + y) / W32 * W32 ^ (k + 1) = valTo xs (k + 1) + valTo ys (k + 1)) := fun y hy => by
        have h1 : valTo (O.set k ((cc + xs.getD k 0 + y) % W32)) (k + 1) = valTo O k + (cc + xs.getD k 0 + y) % W32 * W32 ^ k := by
          simp only [valTo]; rw [valTo_set_low O k _ k (by omega) (Nat.le_refl _), getD_set _ _ _ _ (by omega), if_pos rfl]
        rw [h1]
        simp only [valTo]
        rw [hy, Nat.pow_succ]
        exact plus_step hO.out.2.2
      generalize xs.getD k 0 = x at *
      by_cases hkm : k < m
      · obtain ⟨by_, oy, rfl, hcy⟩ := hwy.at_ hkm
        have hys : ys.getD k 0 < 4294967296 := hwy.small k
        have hkey2 := Lib.hid (hkey.out _ rfl)
        generalize ys.getD k 0 = y at *
        obtain ⟨z, hz⟩ : ∃ z, z = cc + x + y := ⟨_, rfl⟩
        rw [← hz] at hkey2
        have hz2 : z < 18446744073709551616 := by omega
        have hhi : z / W32 ≤ 1 := by unfold W32; omega
        have r1 := lo32 z
        have r2 := hi32 z
        have e3 : ((cc : Int) + (x : Int) + (y : Int)) = (z : Int) := by omega
        have hlo : z % W32 < W32 := Nat.mod_lt _ W32_pos
        have hkey3 : Hid (∀ lo hi, lo = z % W32 → hi = z / W32 → valTo (O.set k lo) (k + 1) + hi * W32 ^ (k + 1) = valTo xs (k + 1) + valTo ys (k + 1)) := fun lo hi h1 h2 => by rw [h1, h2]; exact hkey2.out
        have hkey4 := Lib.hid (hkey3.out _ _ rfl rfl)
        generalize z % W32 = lo at *
        generalize z / W32 = hi at *
        clear hown hb hwx hwy hkey hkey2 hkey3 hz
        go_wp2
        go_roundw
        case rel => exact ⟨k + 1, O.set k lo, hi, by omega, by go_num, rfl, hhi, HOO.out.set_ k lo, ⟨by rw [List.length_set]; exact hOl, small_set hO.out.2.1 k lo (by omega) hlo, hkey4.out⟩, HB.out.setCell (Nat.le_refl _) _⟩
        case measure => simp [intOf]; omega
      · have hy0 : ys.getD k 0 = 0 := getD_beyond (by rw [HL2.out]; omega)
        have hkey2 := Lib.hid (hkey.out _ hy0)
        obtain ⟨z, hz⟩ : ∃ z, z = cc + x + 0 := ⟨_, rfl⟩
        rw [← hz] at hkey2
        have hz2 : z < 18446744073709551616 := by omega
        have hhi : z / W32 ≤ 1 := by unfold W32; omega
        have r1 := lo32 z
        have r2 := hi32 z
        have e3 : ((cc : Int) + (x : Int)) = (z : Int) := by omega
        have hlo : z % W32 < W32 := Nat.mod_lt _ W32_pos
        have hkey3 : Hid (∀ lo hi, lo = z % W32 → hi = z / W32 → valTo (O.set k lo) (k + 1) + hi * W32 ^ (k + 1) = valTo xs (k + 1) + valTo ys (k + 1)) := fun lo hi h1 h2 => by rw [h1, h2]; exact hkey2.out
        have hkey4 := Lib.hid (hkey3.out _ _ rfl rfl)
        generalize z % W32 = lo at *
        generalize z / W32 = hi at *
        clear hown hb hwx hwy hkey hkey2 hkey3 hz hy0
        go_wp2
        go_roundw
        case rel => exact ⟨k + 1, O.set k lo, hi, by omega, by go_num, rfl, hhi, HOO.out.set_ k lo, ⟨by rw [List.length_set]; exact hOl, small_set hO.out.2.1 k lo (by omega) hlo, hkey4.out⟩, HB.out.setCell (Nat.le_refl _) _⟩
        case measure => simp [intOf]; omega
    · obtain rfl : k = n := by omega
      have hfz := hown.frozen k
      have hco := hown.cell k (by omega)
      have hccW : cc < W32 := by unfold W32; omega
      have r1 := mod32 cc hccW
      have hval : Hid (valW (O.set k cc) = u + v) := by
        unfold valW
        rw [List.length_set, hOl]
        simp only [valTo]
        rw [valTo_set_low O k _ k (by omega) (Nat.le_refl _), getD_set _ _ _ _ (by omega), if_pos rfl, hO.out.2.2, HXV.out, HYV.out]
        rfl
      have hw : Hid (Words (wr.setCell ⟨w.heap.size, k, none⟩ (.int .u32 (cc : Int))) (some ⟨w.heap.size, 0, none⟩) (k + 1) (O.set k cc)) := by
        have h1 := (hown.set_ k cc).words (by rw [List.length_set, hOl]; omega) (small_set hO.out.2.1 k cc (by omega) hccW)
        rw [List.length_set, hOl] at h1
        exact h1
      have k119 := Lib.hid (f119_any _ (k + 1) (k + 1) _ _ hw.out (Nat.le_refl _))
      rw [hval.out] at k119
      have hB2 := Lib.hid (hb.setCell (p := ⟨w.heap.size, k, none⟩) (Nat.le_refl _) (.int .u32 (cc : Int)))
      clear hown hb hwx hwy hw hval
      go_wp2_with fail
      refine k119.out.mono ?_
      rintro e w2 ⟨q, rfl, hnum, hq2, rfl⟩
      have HN := Lib.hid hnum
      clear hnum
      go_wp2
      go_ret
      exact ⟨_, _, _, rfl, HN.out, hq2, hB2.out⟩
set_option maxRecDepth 100000 in
set_option maxHeartbeats 4000000 in
/-- big.plus, the shorter one first -/
theorem f114_short (A B : Option Addr) (n c m d u v : Nat) (w : World) (hs : Num w A n u) (ho : Num w B m v) (hnm : m < n) (hn : n ≤ 5000) :
    Calls Try.prog 114 #[.slice B m d, .slice A n c] w fun e w' => ∃ A' k c', e = .returned (.slice A' k c') ∧ Num w' A' k (u + v) ∧ k ≤ c' ∧ Below w.heap.size w w' := by
  obtain ⟨xs, hx, hxn, hxv⟩ := hs
  obtain ⟨ys, hy, hyn, hyv⟩ := ho
  have HL1 := Lib.hid hx.len
  have HL2 := Lib.hid hy.len
  have hmk := make_words (n + 1) (by omega) w
  have enc : (((n + 1 : Nat) : Int)) = (n : Int) + 1 := by omega
  rw [enc] at hmk
  obtain ⟨w1, hw1⟩ : ∃ w1, w1 = w.alloc (.cells ((List.replicate (n + 1) (0 : Nat)).map fun (d : Nat) => Value.int .u32 (d : Int)).toArray 108) := ⟨_, rfl⟩
  rw [← hw1] at hmk
  have b1 : Below w.heap.size w w1 := by rw [hw1]; exact below_alloc _ _
  have HX := Lib.hid hx
  have HY := Lib.hid hy
  have HO : Hid (OwnW w1 w.heap.size (List.replicate (n + 1) 0)) := by rw [hw1]; exact OwnW.lit _ _
  have B1 := Lib.hid b1
  have HXV : Hid (valTo xs n = u) := by rw [← hxv]; unfold valW; rw [HL1.out]; rfl
  have HYV : Hid (valTo ys n = v) := by rw [← hyv]; exact valTo_ge (by rw [HL2.out]; omega)
  have hq : decide ((m : Int) < (n : Int)) = true := by simp; omega
  have hq' : decide (m < n) = true := by simp; omega
  clear hx hy hxn hyn hxv hyv hw1 b1 enc
  go_enter Try.func114, Try.ntmps114
  go_wp2
  go_loopw [6, 7, 21] (fun cy _ i wr => ∃ (k : Nat) (O : List Nat) (cc : Nat), k ≤ n ∧ i = .int .i64 (k : Int) ∧ cy = .int .u64 (cc : Int) ∧ cc ≤ 1 ∧ OwnW wr w.heap.size O ∧ Hid (O.length = n + 1 ∧ Small O ∧ valTo O k + cc * W32 ^ k = valTo xs k + valTo ys k) ∧ Below w.heap.size w wr) (fun _ _ i _ => n - (intOf i).toNat)
  case atStart => exact ⟨0, _, 0, by omega, rfl, rfl, by omega, HO.out, ⟨by simp, small_zeros _, rfl⟩, B1.out⟩
  case round => as_aux_lemma =>
    obtain ⟨k, O, cc, hk, rfl, rfl, hcc, hown, hO, hb⟩ := hrel
    have HOO := Lib.hid hown
    have HB := Lib.hid hb
    have hwx := HX.out.below hb
    have hwy := HY.out.below hb
    have hOl := hO.out.1
    by_cases hlt : k < n
    · obtain ⟨bx, ox, rfl, hcx⟩ := hwx.at_ hlt
      have hxs : xs.getD k 0 < 4294967296 := hwx.small k
      have hfz := hown.frozen k
      have hco := hown.cell k (by omega)
      have hkey : Hid (∀ y, ys.getD k 0 = y → valTo (O.set k ((cc + xs.getD k 0 + y) % W32)) (k + 1) + (cc + xs.getD k 0 + y) / W32 * W32 ^ (k + 1) = valTo xs (k + 1) + valTo ys (k + 1)) := fun y hy => by
        have h1 : valTo (O.set k ((cc + xs.getD k 0 + y) % W32)) (k + 1) = valTo O k + (cc + xs.getD k 0 + y) % W32 * W32 ^ k := by
          simp only [valTo]; rw [valTo_set_low O k _ k (by omega) (Nat.le_refl _), getD_set _ _ _ _ (by omega), if_pos rfl]
        rw [h1]
        simp only [valTo]
        rw [hy, Nat.pow_succ]
        exact plus_step hO.out.2.2
      generalize xs.getD k 0 = x at *
      by_cases hkm : k < m
      · obtain ⟨by_, oy, rfl, hcy⟩ := hwy.at_ hkm
        have hys : ys.getD k 0 < 4294967296 := hwy.small k
        have hkey2 := Lib.hid (hkey.out _ rfl)
        generalize ys.getD k 0 = y at *
        obtain ⟨z, hz⟩ : ∃ z, z = cc + x + y := ⟨_, rfl⟩
        rw [← hz] at hkey2
        have hz2 : z < 18446744073709551616 := by omega
        have hhi : z / W32 ≤ 1 := by unfold W32; omega
        have r1 := lo32 z
        have r2 := hi32 z
        have e3 : ((cc : Int) + (x : Int) + (y : Int)) = (z : Int) := by omega
        have hlo : z % W32 < W32 := Nat.mod_lt _ W32_pos
        have hkey3 : Hid (∀ lo hi, lo = z % W32 → hi = z / W32 → valTo (O.set k lo) (k + 1) + hi * W32 ^ (k + 1) = valTo xs (k + 1) + valTo ys (k + 1)) := fun lo hi h1 h2 => by rw [h1, h2]; exact hkey2.out
        have hkey4 := Lib.hid (hkey3.out _ _ rfl rfl)
        generalize z % W32 = lo at *
        generalize z / W32 = hi at *
        clear hown hb hwx hwy hkey hkey2 hkey3 hz
        go_wp2
        go_roundw
        case rel => exact ⟨k + 1, O.set k lo, hi, by omega, by go_num, rfl, hhi, HOO.out.set_ k lo, ⟨by rw [List.length_set]; exact hOl, small_set hO.out.2.1 k lo (by omega) hlo, hkey4.out⟩, HB.out.setCell (Nat.le_refl _) _⟩
        case measure => simp [intOf]; omega
      · have hy0 : ys.getD k 0 = 0 := getD_beyond (by rw [HL2.out]; omega)
        have hkey2 := Lib.hid (hkey.out _ hy0)
        obtain ⟨z, hz⟩ : ∃ z, z = cc + x + 0 := ⟨_, rfl⟩
        rw [← hz] at hkey2
        have hz2 : z < 18446744073709551616 := by omega
        have hhi : z / W32 ≤ 1 := by unfold W32; omega
        have r1 := lo32 z
        have r2 := hi32 z
        have e3 : ((cc : Int) + (x : Int)) = (z : Int) := by omega
        have hlo : z % W32 < W32 := Nat.mod_lt _ W32_pos
        have hkey3 : Hid (∀ lo hi, lo = z % W32 → hi = z / W32 → valTo (O.set k lo) (k + 1) + hi * W32 ^ (k + 1) = valTo xs (k + 1) + valTo ys (k + 1)) := fun lo hi h1 h2 => by rw [h1, h2]; exact hkey2.out
        have hkey4 := Lib.hid (hkey3.out _ _ rfl rfl)
        generalize z % W32 = lo at *
        generalize z / W32 = hi at *
        clear hown hb hwx hwy hkey hkey2 hkey3 hz hy0
        go_wp2
        go_roundw
        case rel => exact ⟨k + 1, O.set k lo, hi, by omega, by go_num, rfl, hhi, HOO.out.set_ k lo, ⟨by rw [List.length_set]; exact hOl, small_set hO.out.2.1 k lo (by omega) hlo, hkey4.out⟩, HB.out.setCell (Nat.le_refl _) _⟩
        case measure => simp [intOf]; omega
    · obtain rfl : k = n := by omega
      have hfz := hown.frozen k
      have hco := hown.cell k (by omega)
      have hccW : cc < W32 := by unfold W32; omega
      have r1 := mod32 cc hccW
      have hval : Hid (valW (O.set k cc) = u + v) := by
        unfold valW
        rw [List.length_set, hOl]
        simp only [valTo]
        rw [valTo_set_low O k _ k (by omega) (Nat.le_refl _), getD_set _ _ _ _ (by omega), if_pos rfl, hO.out.2.2, HXV.out, HYV.out]
        rfl
      have hw : Hid (Words (wr.setCell ⟨w.heap.size, k, none⟩ (.int .u32 (cc : Int))) (some ⟨w.heap.size, 0, none⟩) (k + 1) (O.set k cc)) := by
        have h1 := (hown.set_ k cc).words (by rw [List.length_set, hOl]; omega) (small_set hO.out.2.1 k cc (by omega) hccW)
        rw [List.length_set, hOl] at h1
        exact h1
      have k119 := Lib.hid (f119_any _ (k + 1) (k + 1) _ _ hw.out (Nat.le_refl _))
      rw [hval.out] at k119
      have hB2 := Lib.hid (hb.setCell (p := ⟨w.heap.size, k, none⟩) (Nat.le_refl _) (.int .u32 (cc : Int)))
      clear hown hb hwx hwy hw hval
      go_wp2_with fail
      refine k119.out.mono ?_
      rintro e w2 ⟨q, rfl, hnum, hq2, rfl⟩
      have HN := Lib.hid hnum
      clear hnum
      go_wp2
      go_ret
      exact ⟨_, _, _, rfl, HN.out, hq2, hB2.out⟩
set_option maxRecDepth 100000 in
set_option maxHeartbeats 4000000 in
/-- big.plus -/
theorem f114_any (A B : Option Addr) (n c m d u v : Nat) (w : World) (hs : Num w A n u) (ho : Num w B m v) (hn : n ≤ 5000) (hm : m ≤ 5000) :
    Calls Try.prog 114 #[.slice A n c, .slice B m d] w fun e w' => ∃ A' k c', e = .returned (.slice A' k c') ∧ Num w' A' k (u + v) ∧ k ≤ c' ∧ Below w.heap.size w w' := by
  by_cases hnm : m ≤ n
  · exact f114_long A B n c m d u v w hs ho hnm hn
  · rw [Nat.add_comm]
    exact f114_short B A m d n c v u w ho hs (by omega) hm

/-- One digit of a difference. -/
theorem minus_step {P a b c x y z lo c' : Nat} (h : z + b = a + c * P) (hd : x + c' * W32 = lo + c + y) : z + lo * P + (b + y * P) = a + x * P + c' * (P * W32) := by
  have : (x + c' * W32) * P = (lo + c + y) * P := by rw [hd]
  rw [Nat.add_mul, Nat.add_mul, Nat.add_mul] at this
  have e2 : c' * (P * W32) = c' * W32 * P := by ac_rfl
  rw [e2]; omega
theorem u64_borrow (e y : Nat) (h : e < y) (hy : y ≤ 4294967296) : ∃ D lo : Nat, IntKind.u64.wrap ((e : Int) - (y : Int)) = (D : Int) ∧ ((D : Int) % 4294967296) = (lo : Int) ∧ ((D : Int) / 9223372036854775808) = 1 ∧ lo + y = e + 4294967296 ∧ lo < 4294967296 ∧
    D < 18446744073709551616 ∧ 18446744069414584320 ≤ D ∧ D + y = e + 18446744073709551616 := by
  refine ⟨e + 18446744073709551616 - y, e + 4294967296 - y, ?_, by omega, by omega, by omega, by omega, by omega, by omega, by omega⟩
  rw [IntKind.wrap_u64]
  omega
set_option maxRecDepth 100000 in
set_option maxHeartbeats 4000000 in
/-- big.minus -/
theorem f116_any (A B : Option Addr) (n c m d u v : Nat) (w : World) (hs : Num w A n u) (ho : Num w B m v) (hle : v ≤ u) (hn : n ≤ 5000) :
    Calls Try.prog 116 #[.slice A n c, .slice B m d] w fun e w' => ∃ A' k c', e = .returned (.slice A' k c') ∧ Num w' A' k (u - v) ∧ k ≤ c' ∧ Below w.heap.size w w' := by
  obtain ⟨xs, hx, hxn, hxv⟩ := hs
  obtain ⟨ys, hy, hyn, hyv⟩ := ho
  have hnm : m ≤ n := by
    rw [← hy.len]
    refine norm_len hyn n ?_
    rw [hyv, ← hx.len]
    have := valW_lt hx.small
    omega
  have HL1 := Lib.hid hx.len
  have HL2 := Lib.hid hy.len
  have hmk := make_words n (by omega) w
  obtain ⟨w1, hw1⟩ : ∃ w1, w1 = w.alloc (.cells ((List.replicate n (0 : Nat)).map fun (d : Nat) => Value.int .u32 (d : Int)).toArray 108) := ⟨_, rfl⟩
  rw [← hw1] at hmk
  have b1 : Below w.heap.size w w1 := by rw [hw1]; exact below_alloc _ _
  have HX := Lib.hid hx
  have HY := Lib.hid hy
  have HO : Hid (OwnW w1 w.heap.size (List.replicate n 0)) := by rw [hw1]; exact OwnW.lit _ _
  have B1 := Lib.hid b1
  have HXV : Hid (valTo xs n = u) := by rw [← hxv]; unfold valW; rw [HL1.out]; rfl
  have HYV : Hid (valTo ys n = v) := by rw [← hyv]; exact valTo_ge (by rw [HL2.out]; exact hnm)
  have HLE := Lib.hid hle
  clear hx hy hxn hyn hxv hyv hw1 b1 hle
  go_enter Try.func116, Try.ntmps116
  go_wp2
  go_loopw [6, 7, 8, 14] (fun cy _ _ i wr => ∃ (k : Nat) (O : List Nat) (cc : Nat), k ≤ n ∧ i = .int .i64 (k : Int) ∧ cy = .int .u64 (cc : Int) ∧ cc ≤ 1 ∧ OwnW wr w.heap.size O ∧ Hid (O.length = n ∧ Small O ∧ valTo O k + valTo ys k = valTo xs k + cc * W32 ^ k) ∧ Below w.heap.size w wr) (fun _ _ _ i _ => n - (intOf i).toNat)
  case atStart => exact ⟨0, _, 0, by omega, rfl, rfl, by omega, HO.out, ⟨by simp, small_zeros _, rfl⟩, B1.out⟩
  case round => as_aux_lemma =>
    obtain ⟨k, O, cc, hk, rfl, rfl, hcc, hown, hO, hb⟩ := hrel
    have HOO := Lib.hid hown
    have HB := Lib.hid hb
    have hwx := HX.out.below hb
    have hwy := HY.out.below hb
    have hOl := hO.out.1
    by_cases hlt : k < n
    · obtain ⟨bx, ox, rfl, hcx⟩ := hwx.at_ hlt
      have hxs : xs.getD k 0 < 4294967296 := hwx.small k
      have hfz := hown.frozen k
      have hco := hown.cell k (by omega)
      have hkey : Hid (∀ lo c', xs.getD k 0 + c' * W32 = lo + cc + ys.getD k 0 → valTo (O.set k lo) (k + 1) + valTo ys (k + 1) = valTo xs (k + 1) + c' * W32 ^ (k + 1)) := fun lo c' hd => by
        have h1 : valTo (O.set k lo) (k + 1) = valTo O k + lo * W32 ^ k := by
          simp only [valTo]; rw [valTo_set_low O k _ k (by omega) (Nat.le_refl _), getD_set _ _ _ _ (by omega), if_pos rfl]
        rw [h1]
        simp only [valTo]
        rw [Nat.pow_succ]
        exact minus_step hO.out.2.2 hd
      by_cases hkm : k < m
      · obtain ⟨by_, oy, rfl, hcy⟩ := hwy.at_ hkm
        have hys : ys.getD k 0 < 4294967296 := hwy.small k
        generalize xs.getD k 0 = x at *
        generalize ys.getD k 0 = y at *
        by_cases hge : cc + y ≤ x
        · obtain ⟨lo, hlo⟩ : ∃ lo, lo = x - cc - y := ⟨_, rfl⟩
          have hkey4 := Lib.hid (hkey.out lo 0 (by omega))
          have e1 : ((x : Int) - (cc : Int) - (y : Int)) = (lo : Int) := by omega
          have hl1 : lo < 4294967296 := by omega
          have r1 := mod32 lo hl1
          have r2 : ((lo : Int) / 9223372036854775808) = 0 := by omega
          clear hown hb hwx hwy hkey hlo
          go_wp2
          go_roundw
          case rel => exact ⟨k + 1, O.set k lo, 0, by omega, by go_num, rfl, by omega, HOO.out.set_ k lo, ⟨by rw [List.length_set]; exact hOl, small_set hO.out.2.1 k lo (by omega) hl1, hkey4.out⟩, HB.out.setCell (Nat.le_refl _) _⟩
          case measure => simp [intOf]; omega
        · by_cases hxc : cc ≤ x
          · obtain ⟨e, he⟩ : ∃ e, e = x - cc := ⟨_, rfl⟩
            have e1 : ((x : Int) - (cc : Int)) = (e : Int) := by omega
            obtain ⟨D, lo, wD, r1, r2, hd1, hl1, hD, hD2, hd3⟩ := u64_borrow e y (by omega) (by omega)
            have hkey4 := Lib.hid (hkey.out lo 1 (by unfold W32; omega))
            clear hown hb hwx hwy he hkey hd1 hd3
            go_wp2
            go_roundw
            case rel => exact ⟨k + 1, O.set k lo, 1, by omega, by go_num, rfl, by omega, HOO.out.set_ k lo, ⟨by rw [List.length_set]; exact hOl, small_set hO.out.2.1 k lo (by omega) hl1, hkey4.out⟩, HB.out.setCell (Nat.le_refl _) _⟩
            case measure => simp [intOf]; omega
          · obtain ⟨E, l0, wE, r0, r00, h01, h02, hE, hE2, h03⟩ := u64_borrow x cc (by omega) (by omega)
            obtain ⟨D, hD⟩ : ∃ D, D = E - y := ⟨_, rfl⟩
            have e1 : ((E : Int) - (y : Int)) = (D : Int) := by omega
            obtain ⟨lo, hlo⟩ : ∃ lo, lo = D % 4294967296 := ⟨_, rfl⟩
            have r1 : ((D : Int) % 4294967296) = (lo : Int) := by omega
            have r2 : ((D : Int) / 9223372036854775808) = 1 := by omega
            have hl1 : lo < 4294967296 := by omega
            have hD3 : D < 18446744073709551616 := by omega
            have hkey4 := Lib.hid (hkey.out lo 1 (by unfold W32; omega))
            clear hown hb hwx hwy hkey hlo hD r0 r00 h01 h02 h03
            go_wp2
            go_roundw
            case rel => exact ⟨k + 1, O.set k lo, 1, by omega, by go_num, rfl, by omega, HOO.out.set_ k lo, ⟨by rw [List.length_set]; exact hOl, small_set hO.out.2.1 k lo (by omega) hl1, hkey4.out⟩, HB.out.setCell (Nat.le_refl _) _⟩
            case measure => simp [intOf]; omega
      · have hy0 : ys.getD k 0 = 0 := getD_beyond (by rw [HL2.out]; omega)
        rw [hy0] at hkey
        generalize xs.getD k 0 = x at *
        by_cases hxc : cc ≤ x
        · obtain ⟨lo, hlo⟩ : ∃ lo, lo = x - cc := ⟨_, rfl⟩
          have hkey4 := Lib.hid (hkey.out lo 0 (by omega))
          have e1 : ((x : Int) - (cc : Int)) = (lo : Int) := by omega
          have hl1 : lo < 4294967296 := by omega
          have r1 := mod32 lo hl1
          have r2 : ((lo : Int) / 9223372036854775808) = 0 := by omega
          clear hown hb hwx hwy hkey hlo hy0
          go_wp2
          go_roundw
          case rel => exact ⟨k + 1, O.set k lo, 0, by omega, by go_num, rfl, by omega, HOO.out.set_ k lo, ⟨by rw [List.length_set]; exact hOl, small_set hO.out.2.1 k lo (by omega) hl1, hkey4.out⟩, HB.out.setCell (Nat.le_refl _) _⟩
          case measure => simp [intOf]; omega
        · obtain ⟨D, lo, wD, r1, r2, hd1, hl1, hD, hD2, hd3⟩ := u64_borrow x cc (by omega) (by omega)
          have hkey4 := Lib.hid (hkey.out lo 1 (by unfold W32; omega))
          clear hown hb hwx hwy hkey hd1 hd3 hy0
          go_wp2
          go_roundw
          case rel => exact ⟨k + 1, O.set k lo, 1, by omega, by go_num, rfl, by omega, HOO.out.set_ k lo, ⟨by rw [List.length_set]; exact hOl, small_set hO.out.2.1 k lo (by omega) hl1, hkey4.out⟩, HB.out.setCell (Nat.le_refl _) _⟩
          case measure => simp [intOf]; omega
    · obtain rfl : k = n := by omega
      have hval : Hid (valW O = u - v) := by
        have h1 := valTo_lt hO.out.2.1 k
        have h2 := hO.out.2.2
        have h3 := HXV.out
        have h4 := HYV.out
        have h5 := HLE.out
        rw [h3, h4] at h2
        unfold valW
        rw [hOl]
        have h6 : cc = 0 := by
          rcases Nat.eq_zero_or_pos cc with h | h
          · exact h
          · have : cc = 1 := by omega
            rw [this, Nat.one_mul] at h2
            omega
        rw [h6, Nat.zero_mul] at h2
        unfold Hid; omega
      have hw : Hid (Words wr (some ⟨w.heap.size, 0, none⟩) k O) := by
        have h1 := hown.words (by rw [hOl]; omega) hO.out.2.1
        rw [hOl] at h1
        exact h1
      have k119 := Lib.hid (f119_any _ k k _ _ hw.out (Nat.le_refl _))
      rw [hval.out] at k119
      clear hown hb hwx hwy hw hval
      go_wp2_with fail
      refine k119.out.mono ?_
      rintro e w2 ⟨q, rfl, hnum, hq2, rfl⟩
      have HN := Lib.hid hnum
      clear hnum
      go_wp2
      go_ret
      exact ⟨_, _, _, rfl, HN.out, hq2, HB.out⟩
end Go.Proofs.Ytfaenbaaadjbbaa
