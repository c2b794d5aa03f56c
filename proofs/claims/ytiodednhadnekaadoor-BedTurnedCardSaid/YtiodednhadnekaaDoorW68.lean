/- Walks: BedTurned. -/
import Derived.Test.YtiodednhadnekaaDoorPlain13
namespace Go.Proofs.YtiodednhadnekaaDoor
open Go.RowKit Go.Deep
attribute [local go_sem ↓] Go.wp_at_zero Go.wp_at_succ

def mvR (n : Nat) (b : List (List Int)) (R C r c : Nat) : List Int := (List.range c).map fun k => (gAt b ((r + R) % n) k + C) % n
theorem mvR_len (n : Nat) (b : List (List Int)) (R C r c : Nat) : (mvR n b R C r c).length = c := by simp [mvR]
theorem mvR_succ (n : Nat) (b : List (List Int)) (R C r c : Nat) : mvR n b R C r c ++ [(gAt b ((r + R) % n) c + C) % n] = mvR n b R C r (c + 1) := by simp [mvR, List.range_succ]
theorem mvL_get {n : Nat} (b : List (List Int)) (R C : Nat) {r : Nat} (hr : r < n) : (mvL b n R C).getD r [] = mvR n b R C r n := by
  unfold mvL
  rw [gridL_get _ hr]; rfl
/-- One of three. -/
def pick3 {α : Type} (x y z : α) (i : Nat) : α := if i = 0 then x else if i = 1 then y else z
theorem lit3V (w : World) (u v x : Value) (t : TypeId) (i : Nat) (hi : i < 3) : (w.alloc (.cells #[u, v, x] t)).cell? ⟨w.heap.size, i, none⟩ = some (pick3 u v x i) := by
  rw [cell_new]
  match i, hi with
  | 0, _ => rfl
  | 1, _ => rfl
  | 2, _ => rfl
set_option maxRecDepth 100000 in
set_option maxHeartbeats 8000000 in
theorem f13_no (A : Option Addr) (n c : Nat) (b : List (List Int)) (R C : Nat) (w : World) (hs : CameB w A n c b) (ht : Tab w) (hno : fewB (b.map List.length) = false ∨ fullB b = false) :
    Calls Tryd.prog 13 #[.slice A n c, .int .u8 (R : Int), .int .u8 (C : Int)] w fun e w' => e = .returned (.bool true) ∧ Below w.heap.size w w' := by
  have K16 := Lib.hid (f16_any A c n (b.map List.length) w hs.1)
  have K17 : Hid (∀ W, Below w.heap.size w W → Calls Tryd.prog 17 #[] W fun e w' => e = .returned (.bool true) ∧ Below W.heap.size W w') := Lib.hid fun W h => f17_any W (ht.below h)
  cases hf : fewB (b.map List.length)
  · rw [hf] at K16
    clear hs hf ht hno
    go_enter Tryd.func13, Tryd.ntmps13
    go_wp2_with fail
    refine K16.out.mono ?_
    rintro e w1 ⟨rfl, rfl⟩
    go_wp2_with fail
    refine (K17.out _ (Below.refl _ _)).mono ?_
    rintro e w2 ⟨rfl, hb⟩
    have HB := Lib.hid hb
    clear hb
    go_wp2
    go_ret
    exact ⟨rfl, HB.out⟩
  rw [hf] at K16
  have hfu : fullB b = false := hno.resolve_left (by rw [hf]; simp)
  have hB := hs.beds hf
  have K43 := Lib.hid (f43_any A n c b w hB)
  have HE : Hid (tuX b = [] ∧ tuY b = [] ∧ trE b = 2) := by unfold tuX tuY trE; rw [hfu]; exact ⟨rfl, rfl, rfl⟩
  have K21 : Hid (∀ W, Below w.heap.size w W → Calls Tryd.prog 21 #[.slice A n c] W fun e w' => e = .returned (.bool false) ∧ W = w') := Lib.hid fun W h => by have h2 := f21_any A n c b W (hB.below h); rw [hfu] at h2; exact h2
  rw [HE.out.1, HE.out.2.1, HE.out.2.2] at K43
  clear hs hf ht hno hfu hB
  go_enter Tryd.func13, Tryd.ntmps13
  go_wp2_with fail
  refine K16.out.mono ?_
  rintro e w1 ⟨rfl, rfl⟩
  go_wp2_with fail
  refine K43.out.mono ?_
  rintro e w2 ⟨A1, k1, c1, A2, k2, c2, rfl, hX, hY, hb⟩
  obtain rfl : k1 = 0 := by have := hX.len; simpa using this.symm
  obtain rfl : k2 = 0 := by have := hY.len; simpa using this.symm
  have HB := Lib.hid hb
  clear hb hX hY
  go_wp2_with fail
  refine (K21.out w2 HB.out).mono ?_
  rintro e w3 ⟨rfl, rfl⟩
  go_wp2_with fail
  refine (K17.out w2 HB.out).mono ?_
  rintro e w3 ⟨rfl, hb3⟩
  have HB3 := Lib.hid (below_step HB.out hb3)
  clear hb3
  go_wp2
  go_ret
  exact ⟨rfl, HB3.out⟩
set_option maxRecDepth 100000 in
set_option maxHeartbeats 8000000 in
theorem f13_yes (A : Option Addr) (n c : Nat) (b : List (List Int)) (R C : Nat) (w : World) (hs : Beds w A n c b) (hfew : Calls Tryd.prog 16 #[.slice A n c] w fun e w' => e = .returned (.bool true) ∧ w = w') (hfu : fullB b = true) (hR : R < 256) (hC : C < 256) (ht : Tab w) :
    Calls Tryd.prog 13 #[.slice A n c, .int .u8 (R : Int), .int .u8 (C : Int)] w fun e w' => e = .returned (.bool true) ∧ Below w.heap.size w w' := by
  have K16 := Lib.hid hfew
  have K17 : Hid (∀ W, Below w.heap.size w W → Calls Tryd.prog 17 #[] W fun e w' => e = .returned (.bool true) ∧ Below W.heap.size W w') := Lib.hid fun W h => f17_any W (ht.below h)
  obtain ⟨n1, n7, hF⟩ := fullB_iff.1 hfu
  have hbl := hs.len
  rw [hbl] at n1 n7 hF
  have HF := Lib.hid hF
  have HS := Lib.hid hs
  have K21 : Hid (∀ (A : Option Addr) (c : Nat) (x : List (List Int)) (W : World), Beds W A n c x → IsFull n x → Calls Tryd.prog 21 #[.slice A n c] W fun e w' => e = .returned (.bool true) ∧ W = w') := Lib.hid fun A c x W h hx => by have h2 := f21_any A n c x W h; rw [fullB_of n1 n7 hx] at h2; exact h2
  have K43 : Hid (∀ (A : Option Addr) (c : Nat) (x : List (List Int)) (W : World), Beds W A n c x → IsFull n x → Calls Tryd.prog 43 #[.slice A n c] W fun e w' => ∃ A1 c1 A2 c2, e = .returned (.tuple #[.slice A1 n c1, .slice A2 n c2, .int .i64 0]) ∧ Beds w' A1 n c1 (tcL x n) ∧ Beds w' A2 n c2 (txL x n) ∧ Below W.heap.size W w') := Lib.hid fun A c x W h hx => by
    have hfx := fullB_of n1 n7 hx
    have hlx := hx.shape.1
    refine (f43_any A n c x W h).mono ?_
    rintro e w' ⟨A1, k1, c1, A2, k2, c2, rfl, hX, hY, hb⟩
    have e1 : tuX x = tcL x n := by unfold tuX; rw [if_pos hfx, hlx]
    have e2 : tuY x = txL x n := by unfold tuY; rw [if_pos hfx, hlx]
    have e3 : trE x = 0 := by unfold trE; rw [if_pos hfx]
    rw [e1] at hX
    rw [e2] at hY
    rw [e3]
    obtain rfl : k1 = n := hX.len.symm.trans (gridL_len _ _)
    obtain rfl : k2 = k1 := hY.len.symm.trans (gridL_len _ _)
    exact ⟨A1, c1, A2, c2, rfl, hX, hY, hb⟩
  obtain ⟨T, hT⟩ : ∃ z, z = trN b := ⟨_, rfl⟩
  obtain ⟨S, hS⟩ : ∃ z, z = sqC b := ⟨_, rfl⟩
  obtain ⟨M, hM⟩ : ∃ z, z = mateE b := ⟨_, rfl⟩
  have q1 : (T != T) = false := by simp
  have q2 : (S != S) = false := by simp
  have q3 : (M != M) = false := by simp
  have K30 : Hid (∀ (A : Option Addr) (c : Nat) (x : List (List Int)) (W : World), Beds W A n c x → Same3 b x → Calls Tryd.prog 30 #[.slice A n c] W fun e w' => e = .returned (.tuple #[.int .i64 T, .int .i64 0]) ∧ Below W.heap.size W w') := Lib.hid fun A c x W h hx => by
    have h2 := f30_any A n c x W h; rw [hx.1, hx.2.1, ← hT] at h2; exact h2
  have K41 : Hid (∀ (A : Option Addr) (c : Nat) (x : List (List Int)) (W : World), Beds W A n c x → Same3 b x → Calls Tryd.prog 41 #[.slice A n c] W fun e w' => e = .returned (.tuple #[.int .i64 S, .int .i64 0]) ∧ Below W.heap.size W w') := Lib.hid fun A c x W h hx => by
    have h2 := f41_any A n c x W h; rw [hx.2.2.1, hx.2.1, ← hS] at h2; exact h2
  have K22 : Hid (∀ (A : Option Addr) (c : Nat) (x : List (List Int)) (W : World), Beds W A n c x → Same3 b x → Calls Tryd.prog 22 #[.slice A n c] W fun e w' => ∃ A' k c', e = .returned (.tuple #[.slice A' k c', .int .i64 M]) ∧ Below W.heap.size W w') := Lib.hid fun A c x W h hx => by
    have h2 := f22_any A n c x W h
    rw [hx.2.2.2, ← hM] at h2
    exact h2.mono fun _ _ ⟨A', k, c', h1, _, h3⟩ => ⟨A', k, c', h1, h3⟩
  have HSB : Hid (Same3 b b) := Lib.hid ⟨rfl, by unfold trE; rw [if_pos hfu], rfl, rfl⟩
  have H1 := Lib.hid (same3_tc n1 n7 hF)
  have H2 := Lib.hid (same3_tx n1 n7 hF)
  have H3 := Lib.hid (same3_mv n1 n7 hF R C)
  have F1 := Lib.hid (tc_full hF)
  have F2 := Lib.hid (tx_full hF)
  have F22 := Lib.hid (tx_full (tx_full hF))
  have E1 := Lib.hid (tc_tc hF)
  have E2 := Lib.hid (tx_tx_tx hF)
  have HROW : Hid (∀ i, i < n → (b.getD i []).length = n) := hF.shape.2
  have HCL : Hid ((mvL b n R C).length = n) := Lib.hid (gridL_len _ _)
  obtain ⟨g0, o0, hA0, _⟩ := hs.at_ n1
  subst hA0
  have u1 : IntKind.i64.wrap (R : Int) = (R : Int) := IntWalk.i64_in _ (by omega)
  have u2 : IntKind.i64.wrap (C : Int) = (C : Int) := IntWalk.i64_in _ (by omega)
  have R0 : (0 : Int) ≤ (R : Int) := by omega
  have C0 : (0 : Int) ≤ (C : Int) := by omega
  have hne : ¬ ((n : Int) = 0) := by omega
  have hnz : ¬ (n = 0) := by omega
  have hn0 : (0 : Int) < (n : Int) := by omega
  clear hs hfew hfu ht hF hT hS hM
  go_enter Tryd.func13, Tryd.ntmps13
  go_wp2_with fail
  refine K16.out.mono ?_
  rintro e w1 ⟨rfl, rfl⟩
  go_wp2_with fail
  refine (K43.out _ c b w HS.out HF.out).mono ?_
  rintro e w2 ⟨A1, c1, A2, c2, rfl, hX, hY, hb⟩
  have B2 := Lib.hid hb
  have X2 := Lib.hid hX
  have Y2 := Lib.hid hY
  clear hb hX hY
  go_wp2_with fail
  refine (K21.out _ c b w2 (HS.out.below B2.out) HF.out).mono ?_
  rintro e w3 ⟨rfl, rfl⟩
  go_wp2_with fail
  refine (K21.out _ c1 _ w2 X2.out F1.out).mono ?_
  rintro e w3 ⟨rfl, rfl⟩
  go_wp2_with fail
  refine (K21.out _ c2 _ w2 Y2.out F2.out).mono ?_
  rintro e w3 ⟨rfl, rfl⟩
  go_wp2
  go_loopw [12, 11] (fun ri u wr => ∃ (r : Nat) (v : Value), r ≤ n ∧ ri = .int .i64 (r : Int) ∧ v = u ∧ BRow wr w2.heap.size v ((mvL b n R C).take r) ∧ Below w2.heap.size w2 wr) (fun ri _ _ => n - (intOf ri).toNat)
  case atStart => exact ⟨0, _, by omega, rfl, rfl, BRow.nil _ _, Below.refl _ _⟩
  case round => as_aux_lemma =>
    obtain ⟨r, v, hr, rfl, rfl, hbr, hbel⟩ := hrel
    by_cases hrn : r < n
    · obtain ⟨vs, hv1, hv2, hv3⟩ := hbr
      have HN : Hid ((mvL b n R C).take (r + 1) = (mvL b n R C).take r ++ [mvR n b R C r n]) := Lib.hid (by rw [take_next [] (by rw [HCL.out]; exact hrn), mvL_get b R C hrn])
      have HSZ : Hid (w2.heap.size ≤ wr.heap.size) := hbel.size
      have HBL := Lib.hid hbel
      have hvl : Hid (vs.length ≤ 1000000) := by
        show vs.length ≤ 1000000
        rw [hv2, List.length_take]; omega
      have HV : Hid (∀ W, Below wr.heap.size wr W → RowV W w2.heap.size v vs) := Lib.hid fun W h => hv1.below h
      have HP := Lib.hid (fun (w1 w' : World) (u v' : Value) (hb : Below wr.heap.size wr w1) (hu : Row w1 w2.heap.size u (mvR n b R C r n)) (hg : w1.grownBy w' v.ownBlock) (hr : RowV w' w2.heap.size v' (vs ++ [u])) => BRow.push hv1 hv2 hv3 hb hu hg hr)
      have HBW : Hid (∀ W, Below wr.heap.size wr W → Below w.heap.size w W) := Lib.hid fun W h => below_step B2.out (hbel.trans (h.mono hbel.size))
      have r0 : (0 : Int) ≤ (r : Int) := by omega
      have rn : (r : Int) < (n : Int) := by omega
      obtain ⟨r', hr'⟩ : ∃ z, z = (r + R) % n := ⟨_, rfl⟩
      have hr'n : r' < n := by rw [hr']; exact Nat.mod_lt _ (by omega)
      obtain ⟨Q, hQ⟩ : ∃ z, z = r + R := ⟨_, rfl⟩
      have x1 : (r : Int) + (R : Int) = (Q : Int) := by omega
      have x2 : IntKind.i64.wrap (Q : Int) = (Q : Int) := IntWalk.i64_in _ (by omega)
      have x3 : (Q : Int) % (n : Int) = (r' : Int) := by rw [hr', hQ]; simp
      have x4 : (Q : Int).tmod (n : Int) = (r' : Int) := by rw [Int.tmod_eq_emod_of_nonneg (by omega), x3]
      have x5 : (0 : Int) ≤ (r' : Int) := by omega
      have x6 : (r' : Int) < (n : Int) := by omega
      have x7 : (0 : Int) ≤ (Q : Int) := by omega
      have HR' := Lib.hid hr'
      clear hv1 hv2 hv3 hbel hr' hQ
      go_wp2
      go_loopw [14, 13] (fun ci u wi => ∃ (k : Nat) (v2 : Value), k ≤ n ∧ ci = .int .i64 (k : Int) ∧ v2 = u ∧ Row wi wr.heap.size v2 (mvR n b R C r k) ∧ Below wr.heap.size wr wi) (fun ci _ _ => n - (intOf ci).toNat)
      case atStart => exact ⟨0, _, by omega, rfl, rfl, Row.nil _ _, Below.refl _ _⟩
      case round => as_aux_lemma =>
        obtain ⟨k, v2, hk, rfl, rfl, hrow, hbi⟩ := hrel
        have HROW2 := Lib.hid hrow
        have HBI := Lib.hid hbi
        by_cases hkn : k < n
        · have k0 : (0 : Int) ≤ (k : Int) := by omega
          have kn : (k : Int) < (n : Int) := by omega
          obtain ⟨gi, oi, eAi, Bi, di, hci, _, _, hIi⟩ := (HS.out.below (HBW.out _ hbi)).at_ hr'n
          injection eAi with eAi
          injection eAi with e1 e2
          subst e1 e2
          rw [HROW.out r' hr'n] at hci hIi
          obtain ⟨gj, pj, rfl, hcj⟩ := hIi.at_ hkn
          obtain ⟨X, hX, hXn⟩ := nat_gAt HF.out hr'n hkn
          rw [show (b.getD r' []).getD k 0 = (X : Int) from hX] at hcj
          obtain ⟨Z, hZ⟩ : ∃ z, z = X + C := ⟨_, rfl⟩
          obtain ⟨y, hy⟩ : ∃ z, z = Z % n := ⟨_, rfl⟩
          have z1 : (X : Int) + (C : Int) = (Z : Int) := by omega
          have z2 : IntKind.i64.wrap (Z : Int) = (Z : Int) := IntWalk.i64_in _ (by omega)
          have z3 : (Z : Int) % (n : Int) = (y : Int) := by rw [hy]; simp
          have z4 : (Z : Int).tmod (n : Int) = (y : Int) := by rw [Int.tmod_eq_emod_of_nonneg (by omega), z3]
          have z7 : (0 : Int) ≤ (Z : Int) := by omega
          have HSU : Hid (mvR n b R C r k ++ [(y : Int)] = mvR n b R C r (k + 1)) := Lib.hid (by rw [← mvR_succ, ← HR'.out, hX, z1, z3])
          have HNEW : Hid (∀ W : World, Own (W.alloc (.cells #[.int .i64 (y : Int)] 3)) W.heap.size [(y : Int)]) := Lib.hid fun W => heap_alloc_new W _
          have hll := mvR_len n b R C r k
          have y0 : (0 : Int) ≤ (y : Int) := by omega
          clear hrow hbi hIi hX hZ hy
          go_wp2_with (at_builtin; refine wpList_pushAll rfl (.tmp 95) (.tmp 113) rfl _ v2 (mvR n b R C r k) rfl (HROW2.out.alloc _) (some ⟨wr.heap.size, 0, none⟩) 1 1 [(y : Int)] rfl ?hn ?hi ?hl ?hb ?hr)
          case hi => exact (HNEW.out wr).ints' rfl (by omega)
          case hl => first | omega | (rw [hll]; omega)
          case hb => first | exact Nat.le_trans HBI.out.size (below_alloc wr _).size | (have := HBI.out.size; omega)
          case hr =>
            intro v3 w3 hr3 hg3
            rw [HSU.out] at hr3
            have HR3 := Lib.hid hr3
            have HB3 := Lib.hid (below_grown (HBI.out.alloc HBI.out.size (.cells #[.int .i64 (y : Int)] 3)) hg3 (Nat.le_trans HBI.out.size (below_alloc wr _).size) (HROW2.out.alloc _) (Nat.le_refl _))
            clear hr3 hg3
            go_wp2
            go_roundw
            case rel => exact ⟨k + 1, _, by omega, by go_num, rfl, HR3.out, HB3.out⟩
            case measure => simp [intOf]; omega
        · obtain rfl : k = n := by omega
          have hll := mvR_len k b R C r k
          obtain ⟨A3, c3, rfl, _⟩ := hrow.form3 (by rw [hll]; omega)
          rw [hll] at HROW2
          have hcn3 := cell_new wr #[.slice A3 k c3] 29 0
          have HBA := Lib.hid (hbi.alloc hbi.size (.cells #[.slice A3 k c3] 29))
          have HRA : Hid (Row (wr.alloc (.cells #[.slice A3 k c3] 29)) w2.heap.size (.slice A3 k c3) (mvR k b R C r k)) := Lib.hid ((HROW2.out.mono HSZ.out).alloc _)
          rw [hll]
          clear hrow hbi
          go_wp2_with (at_builtin; refine wpList_pushV rfl (.tmp 115) (.tmp 117) rfl w2.heap.size v vs rfl (HV.out _ HBA.out) wr.heap.size 1 A3 k c3 rfl hcn3 hvl.out ?hb ?hr)
          case hb => first | exact Nat.le_trans HSZ.out HBA.out.size | (have := HSZ.out; have := HBA.out.size; simp at this; omega)
          case hr =>
            intro v3 w3 hr3 hg3 _
            have HB3 := Lib.hid (HP.out _ _ _ _ HBA.out HRA.out hg3 hr3)
            have HBL3 := Lib.hid (below_grownV (HBL.out.trans (HBA.out.mono HSZ.out)) hg3 (Nat.le_trans HSZ.out HBA.out.size) (HV.out _ HBA.out) (Nat.le_refl _))
            clear hr3 hg3 hcn3
            go_wp2
            go_roundw
            case rel => exact ⟨r + 1, _, by omega, by go_num, rfl, by rw [HN.out]; exact HB3.out, HBL3.out⟩
            case measure => simp [intOf]; omega
    · obtain rfl : r = n := by omega
      rw [List.take_of_length_le (by rw [HCL.out]; omega)] at hbr
      obtain ⟨A3, c3, hv2, hN⟩ := hbr.bedsN (by rw [HCL.out]; omega) (fun j => by
        rcases Nat.lt_or_ge j r with h | h
        · rw [mvL_get b R C h, mvR_len]; omega
        · rw [List.getD_eq_getElem?_getD, List.getElem?_eq_none (by rw [HCL.out]; exact h)]; simp)
      rw [HCL.out] at hv2 hN
      subst hv2
      have Z3 := Lib.hid hN.beds
      have X3 := Lib.hid (X2.out.below hbel)
      have Y3 := Lib.hid (Y2.out.below hbel)
      have B3 := Lib.hid (below_step B2.out hbel)
      clear hN hbr hbel X2 Y2 B2
      go_wp2_with fail
      refine (K30.out _ c b wr (HS.out.below B3.out) HSB.out).mono ?_
      rintro e w4 ⟨rfl, hb⟩
      have B4 := Lib.hid (below_step B3.out hb)
      have X4 := Lib.hid (X3.out.below hb)
      have Y4 := Lib.hid (Y3.out.below hb)
      have Z4 := Lib.hid (Z3.out.below hb)
      clear hb B3 X3 Y3 Z3
      go_wp2_with fail
      refine (K41.out _ c b w4 (HS.out.below B4.out) HSB.out).mono ?_
      rintro e w5 ⟨rfl, hb⟩
      have B5 := Lib.hid (below_step B4.out hb)
      have X5 := Lib.hid (X4.out.below hb)
      have Y5 := Lib.hid (Y4.out.below hb)
      have Z5 := Lib.hid (Z4.out.below hb)
      clear hb B4 X4 Y4 Z4
      go_wp2_with fail
      refine (K22.out _ c b w5 (HS.out.below B5.out) HSB.out).mono ?_
      rintro e w6 ⟨A9, k9, c9, rfl, hb⟩
      have B6 := Lib.hid (below_step B5.out hb)
      obtain ⟨wa, hwa⟩ : ∃ z, z = w6.alloc (.cells #[.slice A1 r c1, .slice A2 r c2, .slice A3 r c3] 22) := ⟨_, rfl⟩
      have hba : Below w6.heap.size w6 wa := by rw [hwa]; exact below_alloc w6 _
      have BA := Lib.hid (below_step B6.out hba)
      have XA := Lib.hid ((X5.out.below hb).below hba)
      have YA := Lib.hid ((Y5.out.below hb).below hba)
      have ZA := Lib.hid ((Z5.out.below hb).below hba)
      have HCE : Hid (∀ i, i < 3 → wa.cell? ⟨w6.heap.size, i, none⟩ = some (.slice (pick3 A1 A2 A3 i) r (pick3 c1 c2 c3 i))) := Lib.hid fun i hi => by
        rw [hwa, lit3V w6 _ _ _ 22 i hi]
        unfold pick3
        split
        · rfl
        · split <;> rfl
      have HBE : Hid (∀ i, i < 3 → Beds wa (pick3 A1 A2 A3 i) r (pick3 c1 c2 c3 i) (pick3 (tcL b r) (txL b r) (mvL b r R C) i) ∧ Same3 b (pick3 (tcL b r) (txL b r) (mvL b r R C) i)) := Lib.hid fun i hi => by
        unfold pick3
        by_cases h0 : i = 0
        · simp only [if_pos h0]; exact ⟨XA.out, H1.out⟩
        · by_cases h1 : i = 1
          · simp only [if_neg h0, if_pos h1]; exact ⟨YA.out, H2.out⟩
          · simp only [if_neg h0, if_neg h1]; exact ⟨ZA.out, H3.out⟩
      obtain ⟨G, hG⟩ : ∃ z, z = w6.heap.size := ⟨_, rfl⟩
      rw [← hG] at HCE
      clear hb hba X5 Y5 Z5 B5 B6
      go_wp2
      rw [← hwa, ← hG]
      clear hwa hG
      go_loopw [21] (fun ii wr => ∃ i : Nat, i ≤ 3 ∧ ii = .int .i64 (i : Int) ∧ Below wa.heap.size wa wr) (fun ii _ => 3 - (intOf ii).toNat)
      case atStart => exact ⟨0, by omega, rfl, Below.refl _ _⟩
      case round => as_aux_lemma =>
        obtain ⟨i, hi, rfl, hbel⟩ := hrel
        by_cases hi3 : i < 3
        · have i0 : (0 : Int) ≤ (i : Int) := by omega
          have i3 : (i : Int) < 3 := by omega
          have hce := HCE.out i hi3
          have hce1 := (hbel.cell (lt_of_cell hce)).trans hce
          obtain ⟨hbe, hsa⟩ := HBE.out i hi3
          have HBE2 := Lib.hid hbe
          have HSA := Lib.hid hsa
          generalize pick3 A1 A2 A3 i = Ai at *
          generalize pick3 c1 c2 c3 i = ci at *
          generalize pick3 (tcL b r) (txL b r) (mvL b r R C) i = bi at *
          have HB1 := Lib.hid hbel
          have HCC : Hid (∀ W, Below wa.heap.size wa W → W.cell? ⟨G, i, none⟩ = some (.slice Ai r ci)) := Lib.hid fun W h => (h.cell (lt_of_cell hce)).trans hce
          clear hbe hsa hce hbel
          go_wp2_with fail
          refine (K30.out Ai ci bi wr (HBE2.out.below HB1.out) HSA.out).mono ?_
          rintro e w7 ⟨rfl, hb⟩
          have HB7 := Lib.hid (below_step HB1.out hb)
          have hce7 := HCC.out w7 HB7.out
          clear hb hce1
          go_wp2_with fail
          refine (K41.out Ai ci bi w7 (HBE2.out.below HB7.out) HSA.out).mono ?_
          rintro e w8 ⟨rfl, hb⟩
          have HB8 := Lib.hid (below_step HB7.out hb)
          have hce8 := HCC.out w8 HB8.out
          clear hb hce7
          go_wp2_with fail
          refine (K22.out Ai ci bi w8 (HBE2.out.below HB8.out) HSA.out).mono ?_
          rintro e w9 ⟨A9, k9, c9, rfl, hb⟩
          have HB9 := Lib.hid (below_step HB8.out hb)
          clear hb hce8
          go_wp2
          go_roundw
          case rel => exact ⟨i + 1, by omega, by go_num, HB9.out⟩
          case measure => simp [intOf]; omega
        · obtain rfl : i = 3 := by omega
          have X6 := Lib.hid (XA.out.below hbel)
          have Y6 := Lib.hid (YA.out.below hbel)
          have B6 := Lib.hid (below_step BA.out hbel)
          clear hbel XA YA ZA BA HCE HBE
          go_wp2_with fail
          refine (K43.out A1 c1 _ wr X6.out F1.out).mono ?_
          rintro e w7 ⟨A4, c4, A5, c5, rfl, hX, _, hb⟩
          rw [E1.out] at hX
          have B7 := Lib.hid (below_step B6.out hb)
          have P7 := Lib.hid hX
          have Y7 := Lib.hid (Y6.out.below hb)
          clear hX hb X6 Y6 B6
          go_wp2_with fail
          refine (K43.out A2 c2 _ w7 Y7.out F2.out).mono ?_
          rintro e w8 ⟨A6, c6, A7, c7, rfl, _, hY, hb⟩
          have B8 := Lib.hid (below_step B7.out hb)
          have P8 := Lib.hid (P7.out.below hb)
          have Q8 := Lib.hid hY
          clear hY hb Y7 B7 P7
          go_wp2_with fail
          refine (K43.out A7 c7 _ w8 Q8.out F22.out).mono ?_
          rintro e w9 ⟨A10, c10, A11, c11, rfl, _, hY, hb⟩
          rw [E2.out] at hY
          have B9 := Lib.hid (below_step B8.out hb)
          have P9 := Lib.hid (P8.out.below hb)
          have W9 := Lib.hid hY
          clear hY hb Q8 B8 P8
          go_wp2_with fail
          refine (f20_true A4 _ r c4 r c b w9 P9.out (HS.out.below B9.out)).mono ?_
          rintro e w10 ⟨rfl, hb⟩
          have B10 := Lib.hid (below_step B9.out hb)
          have W10 := Lib.hid (W9.out.below hb)
          clear hb P9 B9 W9
          go_wp2_with fail
          refine (f20_true A11 _ r c11 r c b w10 W10.out (HS.out.below B10.out)).mono ?_
          rintro e w11 ⟨rfl, hb⟩
          have B11 := Lib.hid (below_step B10.out hb)
          clear hb W10 B10
          go_wp2_with fail
          refine (K17.out w11 B11.out).mono ?_
          rintro e w12 ⟨rfl, hb⟩
          have B12 := Lib.hid (below_step B11.out hb)
          clear hb
          go_wp2
          go_ret
          exact ⟨rfl, B12.out⟩
/-- dibberlaw01.BedTurned -/
theorem f13_any (A : Option Addr) (n c : Nat) (b : List (List Int)) (R C : Int) (w : World) (hs : CameB w A n c b) (hR : (Lit.int .u8 R).wf = true) (hC : (Lit.int .u8 C).wf = true) (ht : Tab w) :
    Calls Tryd.prog 13 #[.slice A n c, .int .u8 R, .int .u8 C] w fun e w' => e = .returned (.bool true) ∧ Below w.heap.size w w' := by
  have key : ∀ x : Int, (Lit.int .u8 x).wf = true → ∃ n : Nat, x = n ∧ n < 256 := fun x h => by
    have e1 : IntKind.u8.min = 0 := by decide
    have e2 : IntKind.u8.max = 255 := by decide
    have h2 : (decide (IntKind.u8.min ≤ x) && decide (x ≤ IntKind.u8.max)) = true := h
    rw [e1, e2, Bool.and_eq_true, decide_eq_true_eq, decide_eq_true_eq] at h2
    exact ⟨x.toNat, by omega, by omega⟩
  obtain ⟨R, rfl, kR⟩ := key R hR
  obtain ⟨C, rfl, kC⟩ := key C hC
  cases hf : fewB (b.map List.length)
  · exact f13_no A n c b R C w hs ht (.inl hf)
  · cases hfu : fullB b
    · exact f13_no A n c b R C w hs ht (.inr hfu)
    · have K16 := f16_any A c n (b.map List.length) w hs.1
      rw [hf] at K16
      exact f13_yes A n c b R C w (hs.beds hf) K16 hfu kR kC ht
end Go.Proofs.YtiodednhadnekaaDoor
