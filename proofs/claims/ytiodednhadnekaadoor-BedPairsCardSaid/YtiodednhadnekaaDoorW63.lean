/- Walks: BedPairs, beds that are mates, more than five crops. -/
import Derived.Test.YtiodednhadnekaaDoorW61
namespace Go.Proofs.YtiodednhadnekaaDoor
open Go.RowKit Go.Deep
attribute [local go_sem ↓] Go.wp_at_zero Go.wp_at_succ

set_option maxRecDepth 100000 in
set_option maxHeartbeats 8000000 in
theorem f8_high (A : Option Addr) (n c : Nat) (a : List (List Int)) (B : Option Addr) (m d : Nat) (b : List (List Int)) (w : World) (ha : CameB w A n c a) (hb : CameB w B m d b) (ht : Tab w) (hf : fewB (a.map List.length) = true) (hf2 : fewB (b.map List.length) = true) (hmb : matesB a b = true) (hn5 : 5 < n) :
    Calls Tryd.prog 8 #[.slice A n c, .slice B m d] w fun e w' => e = .returned (.bool true) ∧ Below w.heap.size w w' := by
  have K16 := Lib.hid (f16_any A c n (a.map List.length) w ha.1)
  have K16b := Lib.hid (f16_any B d m (b.map List.length) w hb.1)
  rw [hf] at K16
  rw [hf2] at K16b
  have K17 : Hid (∀ W, Below w.heap.size w W → Calls Tryd.prog 17 #[] W fun e w' => e = .returned (.bool true) ∧ Below W.heap.size W w') := Lib.hid fun W h => f17_any W (ht.below h)
  have hA := ha.beds hf
  have hB := hb.beds hf2
  have HA := Lib.hid hA
  have HB := Lib.hid hB
  have hla := hA.len
  have hlb := hB.len
  clear ha hb hf hf2 ht hA hB
  have K32 : Hid (∀ W, Below w.heap.size w W → Calls Tryd.prog 32 #[.slice A n c, .slice B m d] W fun e w' => e = .returned (.tuple #[.bool (matesB a b), .int .i64 (matesE a b)]) ∧ Below W.heap.size W w') := Lib.hid fun W h => f32_any A B n m c d a b W (HA.out.below h) (HB.out.below h)
  have K32b : Hid (∀ W, Below w.heap.size w W → Calls Tryd.prog 32 #[.slice B m d, .slice A n c] W fun e w' => e = .returned (.tuple #[.bool (matesB a b), .int .i64 (matesE a b)]) ∧ Below W.heap.size W w') := Lib.hid fun W h => by
    have h := f32_any B A m n d c b a W (HB.out.below h) (HA.out.below h)
    rw [matesB_comm, matesE_comm] at h
    exact h
  have K22 : Hid (∀ W, Below w.heap.size w W → Calls Tryd.prog 22 #[.slice A n c] W fun e w' => ∃ A' k c', e = .returned (.tuple #[.slice A' k c', .int .i64 (mateE a)]) ∧ Beds w' A' k c' (mateL a) ∧ Below W.heap.size W w') := Lib.hid fun W h => (f22_any A n c a W (HA.out.below h)).mono fun _ _ ⟨A', k, c', h1, h2, h3⟩ => ⟨A', k, c', h1, h2.beds, h3⟩
  obtain ⟨fa, fb, hl, ho⟩ := matesB_iff.1 hmb
  obtain ⟨n1, n7, hfa⟩ := fullB_iff.1 fa
  obtain ⟨_, _, hfb⟩ := fullB_iff.1 fb
  obtain ⟨me1, me2⟩ := mateE_when hmb
  obtain ⟨ht1, N, ht2, ht3, ht4⟩ := trN_when hmb
  have hme : matesE a b = 0 := by unfold matesE; rw [if_pos ⟨fa, fb, hl⟩]
  obtain rfl : n = m := by omega
  rw [hmb, hme] at K32 K32b
  rw [← hl] at hfb
  rw [hla] at n1 n7 hfa hfb ho me1 me2 ht3
  have K21 : Hid (∀ W, Below w.heap.size w W → Calls Tryd.prog 21 #[.slice A n c] W fun e w' => e = .returned (.bool true) ∧ W = w') := Lib.hid fun W h => by have h2 := f21_any A n c a W (HA.out.below h); rw [fa] at h2; exact h2
  have K21b : Hid (∀ W, Below w.heap.size w W → Calls Tryd.prog 21 #[.slice B n d] W fun e w' => e = .returned (.bool true) ∧ W = w') := Lib.hid fun W h => by have h2 := f21_any B n d b W (HB.out.below h); rw [fb] at h2; exact h2
  have K30 : Hid (∀ W, Below w.heap.size w W → Calls Tryd.prog 30 #[.slice B n d] W fun e w' => e = .returned (.tuple #[.int .i64 (N : Int), .int .i64 0]) ∧ Below W.heap.size W w') := Lib.hid fun W h => by have h2 := f30_any B n d b W (HB.out.below h); rw [ht1, ht2] at h2; exact h2
  have HFA := Lib.hid hfa
  have HFB := Lib.hid hfb
  have HO := Lib.hid ho
  have hmk := make_bools n (by omega)
  obtain ⟨ga, oa, hA0, _⟩ := HA.out.at_ n1
  obtain ⟨gb, ob, hB0, _⟩ := HB.out.at_ n1
  subst hA0 hB0
  have h2 := me2 hn5
  clear hme fa fb hl ho hfa hfb me1 me2 ht1 ht2 hla hlb
  rw [h2] at K22
  clear h2
  go_enter Tryd.func8, Tryd.ntmps8
  go_wp2_with fail
  refine K16.out.mono ?_
  rintro e w1 ⟨rfl, rfl⟩
  go_wp2_with fail
  refine K16b.out.mono ?_
  rintro e w1 ⟨rfl, rfl⟩
  go_wp2_with fail
  refine (K32.out w (Below.refl _ _)).mono ?_
  rintro e w2 ⟨rfl, hb2⟩
  have B2 := Lib.hid hb2
  clear hb2
  go_wp2_with fail
  refine (K32b.out w2 B2.out).mono ?_
  rintro e w3 ⟨rfl, hb3⟩
  have B3 := Lib.hid (below_step B2.out hb3)
  clear hb3 B2
  go_wp2_with fail
  refine (K22.out w3 B3.out).mono ?_
  rintro e w4 ⟨A4, k4, c4, rfl, h4, hb4⟩
  have H4 := Lib.hid h4
  have B4 := Lib.hid (below_step B3.out hb4)
  clear h4 hb4 B3
  have B5 := Lib.hid B4.out
  clear B4
  go_wp2_with fail
  refine (K21.out _ B5.out).mono ?_
  rintro e w6 ⟨rfl, rfl⟩
  go_wp2_with fail
  refine (K21b.out _ B5.out).mono ?_
  rintro e w6 ⟨rfl, rfl⟩
  go_wp2_with fail
  refine (K30.out _ B5.out).mono ?_
  rintro e w6 ⟨rfl, hb6⟩
  have B6 := Lib.hid (below_step B5.out hb6)
  clear hb6 B5 K32 K32b K22 K16 K16b
  go_wp2
  go_loopw [15] (fun xi wr => ∃ x : Nat, x ≤ n ∧ xi = .int .i64 (x : Int) ∧ Below w.heap.size w wr) (fun xi _ => n - (intOf xi).toNat)
  case atStart => exact ⟨0, by omega, rfl, B6.out⟩
  case round => as_aux_lemma =>
    obtain ⟨x, hx, rfl, hbel⟩ := hrel
    by_cases hxn : x < n
    · have x0 : (0 : Int) ≤ (x : Int) := by omega
      have xn : (x : Int) < (n : Int) := by omega
      obtain ⟨wa, hwa⟩ : ∃ z, z = (wr.alloc (.cells (List.replicate n (Value.bool false)).toArray 4)).alloc (.cells (List.replicate n (Value.bool false)).toArray 4) := ⟨_, rfl⟩
      have s1 : (wr.alloc (.cells (List.replicate n (Value.bool false)).toArray 4)).heap.size = wr.heap.size + 1 := by simp
      have UA : Hid (OwnB wa wr.heap.size (colL n a x 0)) := Lib.hid (by rw [hwa, colL_zero]; exact (OwnB.made wr n).below (below_alloc _ _))
      have UB : Hid (OwnB wa (wr.heap.size + 1) (crpL n a b x 0)) := Lib.hid (by
        rw [hwa, crpL_zero]
        have h := OwnB.made (wr.alloc (.cells (List.replicate n (Value.bool false)).toArray 4)) n
        rw [s1] at h
        exact h)
      have BA : Hid (Below w.heap.size w wa) := Lib.hid (by rw [hwa]; exact hbel.trans ((below_alloc2 wr _ _).mono hbel.size))
      obtain ⟨G, hG⟩ : ∃ z, z = wr.heap.size := ⟨_, rfl⟩
      have HGS : Hid (w.heap.size ≤ G) := Lib.hid (by rw [hG]; exact hbel.size)
      rw [← hG] at UA UB
      simp only [List.toArray_replicate] at hwa
      clear hbel s1
      go_wp2
      rw [← hwa, ← hG]
      clear hwa hG
      go_loopw [18] (fun ri wr => ∃ r : Nat, r ≤ n ∧ ri = .int .i64 (r : Int) ∧ OwnB wr G (colL n a x (r * n)) ∧ OwnB wr (G + 1) (crpL n a b x (r * n)) ∧ Below w.heap.size w wr) (fun ri _ => n - (intOf ri).toNat)
      case atStart => exact ⟨0, by omega, rfl, by rw [Nat.zero_mul]; exact UA.out, by rw [Nat.zero_mul]; exact UB.out, BA.out⟩
      case round => as_aux_lemma =>
        obtain ⟨r, hr, rfl, hu, hv, hbel⟩ := hrel
        by_cases hrn : r < n
        · have r0 : (0 : Int) ≤ (r : Int) := by omega
          have rn : (r : Int) < (n : Int) := by omega
          have HU := Lib.hid hu
          have HV := Lib.hid hv
          have HBL := Lib.hid hbel
          clear hu hv hbel
          go_wp2
          go_loopw [19] (fun ci wr => ∃ k : Nat, k ≤ n ∧ ci = .int .i64 (k : Int) ∧ OwnB wr G (colL n a x (r * n + k)) ∧ OwnB wr (G + 1) (crpL n a b x (r * n + k)) ∧ Below w.heap.size w wr) (fun ci _ => n - (intOf ci).toNat)
          case atStart => exact ⟨0, by omega, rfl, HU.out, HV.out, HBL.out⟩
          case round => as_aux_lemma =>
            obtain ⟨k, hk, rfl, hu, hv, hbel⟩ := hrel
            by_cases hkn : k < n
            · obtain ⟨g1, o1, e1, A1, d1, hc1, _, _, hI1⟩ := (HA.out.below hbel).at_ hrn
              injection e1 with e1
              injection e1 with e1 e2
              subst e1 e2
              rw [HFA.out.shape.2 r hrn] at hc1 hI1
              obtain ⟨b1, p1, rfl, hc2⟩ := hI1.at_ hkn
              have hpn := idx_lt hrn hkn
              obtain ⟨p, hp⟩ : ∃ p, p = r * n + k := ⟨_, rfl⟩
              rw [← hp] at hu hv hpn
              have hX : cl n a p = (a.getD r []).getD k 0 := by rw [hp, cl_at a hkn]; rfl
              have k0 : (0 : Int) ≤ (k : Int) := by omega
              have kn : (k : Int) < (n : Int) := by omega
              have hpk : p % n = k := by rw [hp, Nat.add_comm, Nat.add_mul_mod_self_right, Nat.mod_eq_of_lt hkn]
              have HP := Lib.hid hp
              clear hI1 hp
              by_cases hax : cl n a p = x
              · rw [← hX, hax] at hc2
                obtain ⟨g3, o3, e3, B3, d3, hc3, _, _, hI3⟩ := (HB.out.below hbel).at_ hrn
                injection e3 with e3
                injection e3 with e1 e2
                subst e1 e2
                rw [HFB.out.shape.2 r hrn] at hc3 hI3
                obtain ⟨b3, p3, rfl, hc4⟩ := hI3.at_ hkn
                have hly := HFB.out.lo r k hrn hkn
                obtain ⟨Y, hY⟩ := nat_of (gAt b r k) hly.1
                rw [show (b.getD r []).getD k 0 = (Y : Int) from hY] at hc4
                have hYn : Y < n := by omega
                have hby : cl n b p = (Y : Int) := by rw [HP.out, cl_at b hkn, hY]
                have hM1 := colL_miss HFA.out hpn hax hpk
                have hM2 := crpL_miss HO.out hpn hYn hax hby
                have u1 := hu.cell k (by rw [colL_len]; exact hkn)
                have u2 := hu.frozen k
                have v1 := hv.cell Y (by rw [crpL_len]; exact hYn)
                have v2 := hv.frozen Y
                rw [hM1] at u1
                rw [hM2] at v1
                obtain ⟨w7, hw7⟩ : ∃ z, z = wr.setCell ⟨G, k, none⟩ (.bool true) := ⟨_, rfl⟩
                have hu7 : OwnB w7 G (colL n a x (p + 1)) := by rw [hw7, colL_hit hax hpk]; exact hu.set_ k true
                have hv7 : OwnB w7 (G + 1) (crpL n a b x p) := by rw [hw7]; exact hv.far (p := ⟨G, k, none⟩) (by show G + 1 ≠ G; omega) _
                have hb7 : Below w.heap.size w w7 := by rw [hw7]; exact hbel.setCell (by exact HGS.out) _
                have v3 := hv7.cell Y (by rw [crpL_len]; exact hYn)
                have v4 := hv7.frozen Y
                obtain ⟨g5, o5, e5, B5, d5, hc5, _, _, hI5⟩ := (HB.out.below hb7).at_ hrn
                injection e5 with e5
                injection e5 with e1 e2
                subst e1 e2
                rw [HFB.out.shape.2 r hrn] at hc5 hI5
                obtain ⟨b5, p5, rfl, hc6⟩ := hI5.at_ hkn
                rw [show (b.getD r []).getD k 0 = (Y : Int) from hY] at hc6
                have HU8 : Hid (OwnB (w7.setCell ⟨G + 1, Y, none⟩ (.bool true)) G (colL n a x (p + 1))) := Lib.hid (hu7.far (p := ⟨G + 1, Y, none⟩) (by show G ≠ G + 1; omega) _)
                have HV8 : Hid (OwnB (w7.setCell ⟨G + 1, Y, none⟩ (.bool true)) (G + 1) (crpL n a b x (p + 1))) := Lib.hid (by rw [crpL_hit hax hby]; exact hv7.set_ Y true)
                have HB8 : Hid (Below w.heap.size w (w7.setCell ⟨G + 1, Y, none⟩ (.bool true))) := Lib.hid (hb7.setCell (by have := HGS.out; show w.heap.size ≤ G + 1; omega) _)
                have y0 : (0 : Int) ≤ (Y : Int) := by omega
                have yn : (Y : Int) < (n : Int) := by omega
                rw [hM2] at v3
                clear hI3 hI5 hu7 hv7 hb7 hu hv hbel hly hY hby hM1 hM2 hax hX hpk
                go_upto_region 35 with (fail)
                rw [← hw7]
                clear hw7
                go_wp2
                go_roundw
                case rel => exact ⟨k + 1, by omega, by go_num, by rw [← Nat.add_assoc, ← HP.out]; exact HU8.out, by rw [← Nat.add_assoc, ← HP.out]; exact HV8.out, HB8.out⟩
                case measure => simp [intOf]; omega
              · have HU8 : Hid (OwnB wr G (colL n a x (p + 1))) := Lib.hid (by rw [colL_other hax]; exact hu)
                have HV8 : Hid (OwnB wr (G + 1) (crpL n a b x (p + 1))) := Lib.hid (by rw [crpL_other hax]; exact hv)
                have HB8 := Lib.hid hbel
                rw [← hX] at hc2
                have hq : (cl n a p != (x : Int)) = true := by simpa using hax
                generalize cl n a p = u9 at *
                clear hu hv hbel hax hX hpk
                go_wp2
                go_roundw
                case rel => exact ⟨k + 1, by omega, by go_num, by rw [← Nat.add_assoc, ← HP.out]; exact HU8.out, by rw [← Nat.add_assoc, ← HP.out]; exact HV8.out, HB8.out⟩
                case measure => simp [intOf]; omega
            · obtain rfl : k = n := by omega
              have HU2 : Hid (OwnB wr G (colL k a x ((r + 1) * k))) := Lib.hid (by rw [Nat.succ_mul]; exact hu)
              have HV2 : Hid (OwnB wr (G + 1) (crpL k a b x ((r + 1) * k))) := Lib.hid (by rw [Nat.succ_mul]; exact hv)
              have HB2 := Lib.hid hbel
              clear hu hv hbel
              go_wp2
              go_roundw
              case rel => exact ⟨r + 1, by omega, by go_num, HU2.out, HV2.out, HB2.out⟩
              case measure => simp [intOf]; omega
        · obtain rfl : r = n := by omega
          have HB2 := Lib.hid hbel
          clear hu hv hbel
          go_wp2
          go_roundw
          case rel => exact ⟨x + 1, by omega, by go_num, HB2.out⟩
          case measure => simp [intOf]; omega
    · obtain rfl : x = n := by omega
      have B7 := Lib.hid hbel
      clear hbel
      go_wp2_with fail
      refine (K17.out _ B7.out).mono ?_
      rintro e w8 ⟨rfl, hb8⟩
      have B8 := Lib.hid (below_step B7.out hb8)
      clear hb8
      go_wp2
      go_ret
      exact ⟨rfl, B8.out⟩
end Go.Proofs.YtiodednhadnekaaDoor
