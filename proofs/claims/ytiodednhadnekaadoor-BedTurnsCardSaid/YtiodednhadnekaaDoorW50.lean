/- Walks: the specification's Cyclic. -/
import Derived.Test.YtiodednhadnekaaDoorW36
namespace Go.Proofs.YtiodednhadnekaaDoor
open Go.RowKit Go.Deep
attribute [local go_sem ↓] Go.wp_at_zero Go.wp_at_succ

theorem f40_no (n s : Int) (w : World) (h : ¬ cycOk n s) :
    Calls Tryd.prog 40 #[.int .i64 n, .int .i64 s] w fun e w' => e = .returned (.tuple #[.slice none 0 0, .int .i64 2]) ∧ ∃ q, w' = w.drewN q := by
  by_cases h1 : n < 1
  · go_enter Tryd.func40, Tryd.ntmps40
    go_wp2
    go_ret2
    exact ⟨rfl, 0, rfl⟩
  by_cases h2 : 7 < n
  · go_enter Tryd.func40, Tryd.ntmps40
    go_wp2
    go_ret2
    exact ⟨rfl, 0, rfl⟩
  by_cases h3 : s < 1
  · go_enter Tryd.func40, Tryd.ntmps40
    go_wp2
    go_ret2
    exact ⟨rfl, 0, rfl⟩
  by_cases h4 : n < s
  · go_enter Tryd.func40, Tryd.ntmps40
    go_wp2
    go_ret2
    exact ⟨rfl, 0, rfl⟩
  obtain ⟨N, rfl⟩ := nat_of n (by omega)
  obtain ⟨S, rfl⟩ := nat_of s (by omega)
  have K := Lib.hid (f39_any N S w (by omega) (by omega))
  have hg : Nat.gcd N S ≠ 1 := fun e => h ⟨by omega, by omega, by omega, by omega, by rw [Nat.gcd_comm]; simpa using e⟩
  generalize Nat.gcd N S = G at *
  have hq : ((G : Int) != 1) = true := by simp; omega
  clear h hg
  go_enter Tryd.func40, Tryd.ntmps40
  go_wp2_with fail
  refine K.out.mono ?_
  rintro e w1 ⟨rfl, q, rfl⟩
  go_wp2
  go_ret2
  exact ⟨rfl, _, rfl⟩
set_option maxRecDepth 100000 in
set_option maxHeartbeats 8000000 in
theorem f40_yes (n s : Nat) (w : World) (h : cycOk n s) :
    Calls Tryd.prog 40 #[.int .i64 (n : Int), .int .i64 (s : Int)] w fun e w' => ∃ A c, e = .returned (.tuple #[.slice A n c, .int .i64 0]) ∧ Beds w' A n c (cycL n s) ∧ Below w.heap.size w w' := by
  obtain ⟨h1, h2, h3, h4, h5⟩ := h
  simp only [Int.toNat_natCast] at h5
  have h1 : 1 ≤ n := by omega
  have h2 : n ≤ 7 := by omega
  have h3 : 1 ≤ s := by omega
  have h4 : s ≤ n := by omega
  have K : Hid (Calls Tryd.prog 39 #[.int .i64 (n : Int), .int .i64 (s : Int)] w fun e w' => e = .returned (.int .i64 1) ∧ ∃ q, w' = w.drewN q) := Lib.hid (by
    have h := f39_any n s w (by omega) (by omega)
    rw [Nat.gcd_comm, h5] at h
    exact h)
  have hd4 : decide (n < s) = false := decide_eq_false (by omega)
  have hnz : ¬ (n = 0) := by omega
  have hne : ¬ ((n : Int) = 0) := by omega
  have HCL : Hid ((cycL n s).length = n) := by show (cycL n s).length = n; simp [cycL]
  clear h5
  go_enter Tryd.func40, Tryd.ntmps40
  go_wp2_with fail
  refine K.out.mono ?_
  rintro e w1 ⟨rfl, q, rfl⟩
  have B1 := Lib.hid (below_drewN (Below.refl w.heap.size w) q)
  generalize w.drewN q = w1 at *
  go_wp2
  go_loopw [7, 6] (fun ri u wr => ∃ (r : Nat) (v : Value), r ≤ n ∧ ri = .int .i64 (r : Int) ∧ v = u ∧ BRow wr w.heap.size v ((cycL n s).take r) ∧ Below w.heap.size w wr) (fun ri _ _ => n - (intOf ri).toNat)
  case atStart => exact ⟨0, _, by omega, rfl, rfl, BRow.nil _ _, B1.out⟩
  case round => as_aux_lemma =>
    obtain ⟨r, v, hr, rfl, rfl, hbr, hbel⟩ := hrel
    by_cases hrn : r < n
    · obtain ⟨vs, hv1, hv2, hv3⟩ := hbr
      have HN : Hid ((cycL n s).take (r + 1) = (cycL n s).take r ++ [cycR n s r n]) := Lib.hid (by rw [take_next [] (by rw [HCL.out]; exact hrn), cycL_get hrn])
      have HSZ : Hid (w.heap.size ≤ wr.heap.size) := hbel.size
      have HBL := Lib.hid hbel
      have hvl : Hid (vs.length ≤ 1000000) := by
        show vs.length ≤ 1000000
        rw [hv2, List.length_take]; omega
      have HV : Hid (∀ W, Below wr.heap.size wr W → RowV W w.heap.size v vs) := Lib.hid fun W h => hv1.below h
      have HP := Lib.hid (fun (w1 w' : World) (u v' : Value) (hb : Below wr.heap.size wr w1) (hu : Row w1 w.heap.size u (cycR n s r n)) (hg : w1.grownBy w' v.ownBlock) (hr : RowV w' w.heap.size v' (vs ++ [u])) => BRow.push hv1 hv2 hv3 hb hu hg hr)
      have r0 : (0 : Int) ≤ (r : Int) := by omega
      have rn : (r : Int) < (n : Int) := by omega
      obtain ⟨P, hP⟩ : ∃ P, P = r * s := ⟨_, rfl⟩
      have hP49 : P ≤ 49 := by rw [hP]; exact Nat.le_trans (Nat.mul_le_mul (show r ≤ 7 by omega) (show s ≤ 7 by omega)) (by decide)
      have e1 : (r : Int) * (s : Int) = (P : Int) := by rw [hP]; simp
      have HPP := Lib.hid hP
      clear hv1 hv2 hv3 hbel hP
      go_wp2
      go_loopw [9, 8] (fun ci u wi => ∃ (c : Nat) (v2 : Value), c ≤ n ∧ ci = .int .i64 (c : Int) ∧ v2 = u ∧ Row wi wr.heap.size v2 (cycR n s r c) ∧ Below wr.heap.size wr wi) (fun ci _ _ => n - (intOf ci).toNat)
      case atStart => exact ⟨0, _, by omega, rfl, rfl, Row.nil _ _, Below.refl _ _⟩
      case round => as_aux_lemma =>
        obtain ⟨c, v2, hc, rfl, rfl, hrow, hbi⟩ := hrel
        have HROW := Lib.hid hrow
        have HBI := Lib.hid hbi
        by_cases hcn : c < n
        · have c0 : (0 : Int) ≤ (c : Int) := by omega
          have cn : (c : Int) < (n : Int) := by omega
          obtain ⟨Z, hZ⟩ : ∃ Z, Z = P + c := ⟨_, rfl⟩
          obtain ⟨y, hy⟩ : ∃ y, y = (P + c) % n := ⟨_, rfl⟩
          have eP : IntKind.i64.wrap (P : Int) = (P : Int) := IntWalk.i64_in _ (by omega)
          have e2 : IntKind.i64.wrap ((P : Int) + (c : Int)) = (Z : Int) := (IntWalk.i64_in _ (by omega)).trans (by omega)
          have e22 : (P : Int) + (c : Int) = (Z : Int) := by omega
          have e3 : (Z : Int).tmod (n : Int) = (y : Int) := by rw [hy, hZ, Int.tmod_eq_emod_of_nonneg (by omega)]; simp
          have e4 : (Z : Int) % (n : Int) = (y : Int) := by rw [hy, hZ]; simp
          have eZ : IntKind.i64.wrap (Z : Int) = (Z : Int) := IntWalk.i64_in _ (by omega)
          have HSU : Hid (cycR n s r c ++ [(y : Int)] = cycR n s r (c + 1)) := Lib.hid (by rw [hy, HPP.out]; exact cycR_succ n s r c)
          have HNEW : Hid (Own (wr.alloc (.cells #[.int .i64 (y : Int)] 3)) wr.heap.size [(y : Int)]) := heap_alloc_new wr _
          have hll := cycR_len n s r c
          clear hrow hbi hy hZ
          go_wp2_with (at_builtin; refine wpList_pushAll rfl (.tmp 41) (.tmp 49) rfl _ v2 (cycR n s r c) rfl (HROW.out.alloc _) (some ⟨wr.heap.size, 0, none⟩) 1 1 [(y : Int)] rfl ?hn ?hi ?hl ?hb ?hr)
          case hn => exact fun h => by cases h
          case hi => exact HNEW.out.ints' rfl (by omega)
          case hl => rw [hll]; omega
          case hb => exact Nat.le_trans HBI.out.size (below_alloc wr _).size
          case hr =>
            intro v3 w3 hr3 hg3
            rw [HSU.out] at hr3
            have HR3 := Lib.hid hr3
            have HB3 := Lib.hid (below_grown (HBI.out.alloc HBI.out.size (.cells #[.int .i64 (y : Int)] 3)) hg3 (Nat.le_trans HBI.out.size (below_alloc wr _).size) (HROW.out.alloc _) (Nat.le_refl _))
            clear hr3 hg3
            go_wp2
            go_roundw
            case rel => exact ⟨c + 1, _, by omega, by go_num, rfl, HR3.out, HB3.out⟩
            case measure => simp [intOf]; omega
        · obtain rfl : c = n := by omega
          have hll := cycR_len c s r c
          obtain ⟨A1, c1, rfl, _⟩ := hrow.form3 (by rw [hll]; omega)
          rw [hll] at HROW
          have hcn3 := cell_new wr #[.slice A1 c c1] 29 0
          have HBA := Lib.hid (hbi.alloc hbi.size (.cells #[.slice A1 c c1] 29))
          have HRA : Hid (Row (wr.alloc (.cells #[.slice A1 c c1] 29)) w.heap.size (.slice A1 c c1) (cycR c s r c)) := Lib.hid ((HROW.out.mono HSZ.out).alloc _)
          rw [hll]
          clear hrow hbi
          go_wp2_with (at_builtin; refine wpList_pushV rfl (.tmp 51) (.tmp 53) rfl w.heap.size v vs rfl (HV.out _ HBA.out) wr.heap.size 1 A1 c c1 rfl hcn3 hvl.out ?hb ?hr)
          case hb => exact Nat.le_trans HSZ.out HBA.out.size
          case hr =>
            intro v3 w3 hr3 hg3 _
            have HB3 := Lib.hid (HP.out _ _ _ _ HBA.out HRA.out hg3 hr3)
            have HBL3 := Lib.hid (below_grownV (HBL.out.trans (HBA.out.mono HSZ.out)) hg3 (Nat.le_trans HSZ.out HBA.out.size) (HV.out _ HBA.out) (Nat.le_refl _))
            clear hr3 hg3 hcn3
            go_wp2
            go_roundw
            case rel => exact ⟨r + 1, _, by omega, by go_num, rfl, by rw [HN.out]; exact HB3.out, HBL3.out⟩
            case measure => simp [intOf]; omega
    · obtain rfl : r = n := by omega
      rw [List.take_of_length_le (by rw [HCL.out]; omega)] at hbr
      obtain ⟨A2, c2, hv2, hN⟩ := hbr.bedsN (by rw [HCL.out]; omega) (fun j => by
        rcases Nat.lt_or_ge j r with h | h
        · rw [cycL_get h, cycR_len]; omega
        · rw [List.getD_eq_getElem?_getD, List.getElem?_eq_none (by rw [HCL.out]; exact h)]; simp)
      rw [HCL.out] at hv2 hN
      subst hv2
      have HN := Lib.hid hN.beds
      have HB := Lib.hid hbel
      clear hN hbr hbel
      go_wp2
      go_ret2
      exact ⟨_, _, rfl, HN.out, HB.out⟩
end Go.Proofs.YtiodednhadnekaaDoor
