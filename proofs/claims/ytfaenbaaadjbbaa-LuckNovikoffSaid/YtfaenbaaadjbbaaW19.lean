/- Walks: great numbers: Sub, Exp. -/
import Derived.Test.YtfaenbaaadjbbaaW18
import Derived.Test.YtfaenbaaadjbbaaPlain9
namespace Go.Proofs.Ytfaenbaaadjbbaa
open Go.RowKit

theorem below_new {w w2 : World} {o : Obj} (hg : (w.alloc o).grownBy w2 (some w.heap.size)) : Below w.heap.size w w2 :=
  (below_alloc w o).grown hg (by simp) (fun k hk => by injection hk with hk; omega)
theorem BigAt.lt {w : World} {p : Nat} {v : Int} (h : BigAt w p v) : p < w.heap.size := by obtain ⟨A, n, c, h1, _⟩ := h; exact heap_lt h1
theorem IsBig.lt {w : World} {p : Nat} (h : IsBig w p) : p < w.heap.size := by obtain ⟨x, y, h1⟩ := h; exact heap_lt h1
set_option maxRecDepth 100000 in
set_option maxHeartbeats 1000000 in
/-- (*big.Int).Sub -/
theorem f108_any (p q r : Nat) (x y : Int) (w : World) (hp : IsBig w p) (hq : BigAt w q x) (hr : BigAt w r y) (hx : x.natAbs < W32 ^ 4000) (hy : y.natAbs < W32 ^ 4000) :
    Calls Try.prog 108 #[.pointer (some ⟨p, 0, none⟩), .pointer (some ⟨q, 0, none⟩), .pointer (some ⟨r, 0, none⟩)] w (BigRet w p (x - y)) := by
  have hb := below_alloc w (.cells #[.bool false, .slice none 0 0] 133)
  have k117 := Lib.hid (f117_any w.heap.size r y (w.alloc (.cells #[.bool false, .slice none 0 0] 133)) (new_big w).is (hr.below hb))
  have HP := Lib.hid hp
  have HQ := Lib.hid hq
  have HNB := Lib.hid (new_big w).is
  have HX := Lib.hid hx
  have HY : Hid ((-y).natAbs < W32 ^ 4000) := by rw [Int.natAbs_neg]; exact hy
  clear hp hq hr hx hy hb
  go_enter Try.func108, Try.ntmps108
  go_wp2_with fail
  refine k117.out.mono ?_
  rintro e w2 ⟨rfl, hbig, hg⟩
  have hb := below_new hg
  have B2 := Lib.hid hb
  have K := Lib.hid (f107_any p q w.heap.size x (-y) w2 (HP.out.below hb) (HQ.out.below hb) hbig HX.out HY.out)
  clear hbig hg hb
  go_wp2_with fail
  refine K.out.mono ?_
  rintro e w3 ⟨rfl, hbig, hg⟩
  have H1 := Lib.hid hbig
  have H2 := Lib.hid hg
  clear hbig hg
  go_wp2
  go_ret
  exact ⟨rfl, H1.out, grown_trans (grown_below B2.out _) H2.out⟩
set_option maxRecDepth 100000 in
set_option maxHeartbeats 4000000 in
/-- (*big.Int).Exp, of 2 -/
theorem f105_any (p q e : Nat) (w : World) (hp : IsBig w p) (hq : BigAt w q 2) (he : e ≤ 300) :
    Calls Try.prog 105 #[.pointer (some ⟨p, 0, none⟩), .pointer (some ⟨q, 0, none⟩), .int .i64 (e : Int)] w (BigRet w p ((2 ^ e : Nat) : Int)) := by
  have k106 := Lib.hid (f106_any 1 w (by omega))
  have HP := Lib.hid hp
  have HQ := Lib.hid hq
  clear hp hq
  go_enter Try.func105, Try.ntmps105
  go_wp2_with fail
  refine k106.out.mono ?_
  rintro e1 w1 ⟨po, rfl, hpo, hbig, hb⟩
  have B1 := Lib.hid hb
  have HO := Lib.hid hbig
  have hsz := hb.size
  have hpl := hbig.lt
  have k110 := Lib.hid (f110_any w1.heap.size q 2 (w1.alloc (.cells #[.bool false, .slice none 0 0] 133)) (new_big w1).is ((HQ.out.below hb).below (below_alloc _ _)))
  clear hbig hb
  go_wp2_with fail
  refine k110.out.mono ?_
  rintro e2 w2 ⟨rfl, hbig, hg⟩
  have B2 := Lib.hid (below_step B1.out (below_new hg))
  have HO2 := Lib.hid (HO.out.below (below_new hg))
  have HB2 := Lib.hid hbig
  clear hbig hg
  go_wp2
  go_loopw [2, 7, 8] (fun n o b wr => ∃ (j m po pb : Nat), Hid (m = e / 2 ^ j) ∧ m ≤ 300 ∧ n = .int .i64 (m : Int) ∧ o = .pointer (some ⟨po, 0, none⟩) ∧ b = .pointer (some ⟨pb, 0, none⟩) ∧ w.heap.size ≤ po ∧ BigAt wr po ((2 ^ (e % 2 ^ j) : Nat) : Int) ∧ BigAt wr pb ((2 ^ (2 ^ j) : Nat) : Int) ∧ Below w.heap.size w wr) (fun n _ _ _ => (intOf n).toNat)
  case atStart => exact ⟨0, e, po, w1.heap.size, by simp [Hid], by omega, rfl, rfl, rfl, hpo, by simpa [Nat.mod_one] using HO2.out, HB2.out, B2.out⟩
  case round => as_aux_lemma =>
    obtain ⟨j, m, po, pb, hm, hm3, rfl, rfl, rfl, hpo, ho, hbb, hbel⟩ := hrel
    have HO := Lib.hid ho
    have HBB := Lib.hid hbb
    have HBL := Lib.hid hbel
    have hsz := hbel.size
    have hpl := ho.lt
    have hbl := hbb.lt
    by_cases h0 : m = 0
    · subst h0
      have hd := exp_done e j hm.out.symm
      have k110 := Lib.hid (f110_any p po _ wr (HP.out.below hbel) ho)
      rw [hd] at k110
      clear ho hbb hbel hd
      go_wp2_with fail
      refine k110.out.mono ?_
      rintro e3 w3 ⟨rfl, hbig, hg⟩
      have H1 := Lib.hid hbig
      have H2 := Lib.hid hg
      clear hbig hg
      go_wp2
      go_ret
      exact ⟨rfl, H1.out, grown_trans (grown_below HBL.out _) H2.out⟩
    · have hj : j ≤ 9 := exp_bound e j (by omega) (by have := hm.out; omega)
      have hB : (((2 ^ (2 ^ j) : Nat) : Int)).natAbs < W32 ^ 4000 := by rw [Int.natAbs_natCast]; exact pow_lt_W (by have := pow9 j hj; omega)
      have hO : (((2 ^ (e % 2 ^ j) : Nat) : Int)).natAbs < W32 ^ 4000 := by rw [Int.natAbs_natCast]; exact pow_lt_W (by have := Nat.mod_le e (2 ^ j); omega)
      have hmd := nat_mod m 2
      have hm2 : Hid (m / 2 = e / 2 ^ (j + 1)) := by rw [hm.out]; exact exp_half e j
      have hsq : Hid (∀ W g, BigAt W g (((2 ^ (2 ^ j) : Nat) : Int) * ((2 ^ (2 ^ j) : Nat) : Int)) → BigAt W g ((2 ^ (2 ^ (j + 1)) : Nat) : Int)) := fun W g h => by rw [← Int.natCast_mul, exp_square] at h; exact h
      by_cases hodd : m % 2 = 1
      · have hod : Hid (∀ W g, BigAt W g (((2 ^ (e % 2 ^ j) : Nat) : Int) * ((2 ^ (2 ^ j) : Nat) : Int)) → BigAt W g ((2 ^ (e % 2 ^ (j + 1)) : Nat) : Int)) := fun W g h => by
          rw [← Int.natCast_mul, exp_odd e j (by rw [← hm.out]; exact hodd)] at h; exact h
        have k111 := Lib.hid (f111_any wr.heap.size po pb _ _ (wr.alloc (.cells #[.bool false, .slice none 0 0] 133)) (new_big wr).is (ho.below (below_alloc _ _)) (hbb.below (below_alloc _ _)) (by omega) (by omega) hO hB)
        have hq1 : ((m : Int) % 2 == 1) = true := by simp; omega
        have hq2 : ((m : Int) % 2) = 1 := by omega
        have Hq2 := Lib.hid hq2
        have hHB := Lib.hid hB
        clear ho hbb hbel hmd hq2 hodd hO hB
        go_wp2_with fail
        refine k111.out.mono ?_
        rintro e3 w3 ⟨rfl, hbig, hg⟩
        have hb3 := below_new hg
        have HO3 := Lib.hid (hod.out _ _ hbig)
        have HB3 := Lib.hid (HBB.out.below hb3)
        have HBL3 := Lib.hid (below_step HBL.out hb3)
        have hpb3 := HB3.out.lt
        have hsz3 := hb3.size
        have hg3 := HO3.out.lt
        have k111b := Lib.hid (f111_any w3.heap.size pb pb _ _ (w3.alloc (.cells #[.bool false, .slice none 0 0] 133)) (new_big w3).is (HB3.out.below (below_alloc _ _)) (HB3.out.below (below_alloc _ _)) (by omega) (by omega) hHB.out hHB.out)
        clear hbig hg hb3
        go_wp2_with fail
        refine k111b.out.mono ?_
        rintro e4 w4 ⟨rfl, hbig, hg⟩
        have hb4 := below_new hg
        have HO4 := Lib.hid (HO3.out.below hb4)
        have HB4 := Lib.hid (hsq.out _ _ hbig)
        have HBL4 := Lib.hid (below_step HBL3.out hb4)
        clear hbig hg hb4
        go_wp2
        go_roundw
        case rel => exact ⟨j + 1, m / 2, _, _, hm2, by omega, by go_num, rfl, rfl, by omega, HO4.out, HB4.out, HBL4.out⟩
        case measure => simp [intOf]; omega
      · have hev : e / 2 ^ j % 2 = 0 := by rw [← hm.out]; omega
        have HO' : Hid (BigAt wr po ((2 ^ (e % 2 ^ (j + 1)) : Nat) : Int)) := by rw [exp_even e j hev]; exact ho
        have hq1 : ((m : Int) % 2 == 1) = false := by simp; omega
        have hHB := Lib.hid hB
        have k111b := Lib.hid (f111_any wr.heap.size pb pb _ _ (wr.alloc (.cells #[.bool false, .slice none 0 0] 133)) (new_big wr).is (hbb.below (below_alloc _ _)) (hbb.below (below_alloc _ _)) (by omega) (by omega) hB hB)
        clear ho hbb hbel hmd hodd hO hB hev
        go_wp2_with fail
        refine k111b.out.mono ?_
        rintro e4 w4 ⟨rfl, hbig, hg⟩
        have hb4 := below_new hg
        have HO4 := Lib.hid (HO'.out.below hb4)
        have HB4 := Lib.hid (hsq.out _ _ hbig)
        have HBL4 := Lib.hid (below_step HBL.out hb4)
        clear hbig hg hb4
        go_wp2
        go_roundw
        case rel => exact ⟨j + 1, m / 2, _, _, hm2, by omega, by go_num, rfl, rfl, by omega, HO4.out, HB4.out, HBL4.out⟩
        case measure => simp [intOf]; omega
end Go.Proofs.Ytfaenbaaadjbbaa
