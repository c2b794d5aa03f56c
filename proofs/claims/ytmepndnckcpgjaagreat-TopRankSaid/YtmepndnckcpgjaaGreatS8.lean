/- Walk: TopRank. -/
import Derived.Test.YtmepndnckcpgjaaGreatS5
import Derived.Test.YtmepndnckcpgjaaGreatS7
import Derived.Test.YtmepndnckcpgjaaGreatS1
namespace Go.Proofs.YtmepndnckcpgjaaGreat
open Go.RowKit
theorem Crn.beds {w : World} {B : Nat} {A : Option Addr} {c : Nat} {T : List (List Int)} (h : Crn w B A c T) (hl : T.length ≤ 1000000) : Beds w A T.length c T := by
  obtain ⟨h1, h2, V, hV, h3⟩ := h
  refine ⟨rfl, hl, h1, h2, fun hp => ?_⟩
  obtain ⟨g, e, _, hc⟩ := h3 hp
  refine ⟨g, 0, e, fun j hj => ?_⟩
  obtain ⟨b, _, ev, ho, hs⟩ := hV.2.2 j hj
  refine ⟨some ⟨b, 0, none⟩, (T.getD j []).length, ?_, Nat.le_refl _, fun e => (by cases e), ho.ints (by omega)⟩
  rw [Nat.zero_add, (hc j hj).1, ev]
theorem cornersL_len {n : Int} {xs : List Int} : (cornersL n xs).length ≤ 46656 := by
  unfold cornersL
  by_cases h : asked n xs = 0
  · rw [if_pos h]
    obtain ⟨hok, _⟩ := asked_zero h
    obtain ⟨m, rfl, h1, h6, _⟩ := costOk_facts hok
    rw [Int.toNat_natCast]
    have e : crnL m xs = putTo (gsL m xs) (gsL m xs).length := (putTo_all _).symm
    rw [e]
    exact Nat.le_trans (putTo_len _ _) (by rw [gsL_len]; exact ord_many h6)
  · rw [if_neg h]; simp
theorem setTo_add (r : List Int) {j : Nat} (hj : j < 6) : setTo r (j + 1) = setTo r j + if r.getD j 0 = 1 then 2 ^ j else 0 := by
  rw [setTo]
  split
  · exact (low_add j hj (setTo r j) (setTo_lt r j)).symm
  · rfl
set_option maxRecDepth 100000 in
set_option maxHeartbeats 16000000 in
/-- dibbertop.TopRank -/
theorem f3_any (n : Int) (A : Option Addr) (m c : Nat) (fs : List (Int × Int)) (w : World) (hs : Fens w A m fs) (hsm : m ≤ 9223372036854775807) :
    Calls Tryz.prog 3 #[.int .i64 n, .slice A m c] w fun e w' => e = .returned (.bool true) ∧ Below w.heap.size w w' := by
  have HS := Lib.hid hs
  have HL := Lib.hid hs.len
  have heq : ∀ (A : Option Addr) (l c : Nat) W, (binOp .eql 23 (.slice A l c) (.slice none 0 0)).run Tryz.prog W = .ok (.bool A.isNone) W := fun A l c W => Go.Lib.run_eql_slice_nil W 23 3 _ l c 0 0 und23
  have K6 := Lib.hid (f6_any n A m c fs w hs hsm)
  clear hs
  go_enter Tryz.func3, Tryz.ntmps3
  go_wp2_with fail
  refine K6.out.mono ?_
  rintro e w1 ⟨A1, k1, c1, rfl, hR, hb⟩
  have HB1 := Lib.hid hb
  have HS1 := Lib.hid (HS.out.below hb)
  rcases hR with ⟨hm1, hm6, hE, rfl, ⟨a1, rfl⟩, hi⟩ | ⟨_, rfl, rfl, rfl⟩
  · obtain ⟨n, rfl⟩ := garE_pos hE
    rw [Int.toNat_natCast] at hi
    have hl := HL.out
    have hg := rk_good hE (by omega) (by omega)
    have has := rk_asked hE (by omega) (by omega)
    have hct := corner_count hE (by omega) (by omega)
    have hcb : ∀ l, l ∈ cornersL (fs.length : Int) (rkL n fs) → _ := fun l hl' => corner_base hE (by omega) (by omega) hl'
    have hcl := cornersL_len (n := (fs.length : Int)) (xs := rkL n fs)
    have K8 := Lib.hid (f24_any (some a1) (m : Int) (2 ^ m) c1 (rkL n fs) w1 hi)
    have K9 : Hid (∀ W, Below w1.heap.size w1 W → _) := Lib.hid fun W hW => f41_any (some a1) (m : Int) (2 ^ m) c1 (rkL n fs) W (hi.below hW)
    have K10 : Hid (∀ W, Below w1.heap.size w1 W → _) := Lib.hid fun W hW => f10_one n A m c fs W (HS1.out.below hW) hE (by omega)
    have K11 : Hid (∀ W, Below w1.heap.size w1 W → _) := Lib.hid fun W hW => f11_any n A m c fs W (fun _ => HS1.out.below hW) HL.out hsm
    have hgr : grR n fs = groupsN n fs (allM fs.length) := by unfold grR; rw [if_pos hE, Int.toNat_natCast]
    have KG : Hid (∀ S, Bas n fs S → garE n (cho fs S) = 0 ∧ grR n (cho fs S) = groupsN n fs (allM fs.length)) := Lib.hid fun S hB => by
      have h0 := cho_gar hE S
      refine ⟨h0, ?_⟩
      unfold grR
      rw [if_pos h0, Int.toNat_natCast, groups_cho hE S]
      have := hB.1.symm.trans hB.2
      unfold rk at this
      show groupsN n fs S = groupsN n fs (2 ^ fs.length - 1)
      omega
    rw [hgr, hE] at K11
    rw [hl] at has hct hcb hcl
    have hch : checkErr (m : Int) (rkL n fs) = 10 := by
      obtain ⟨h1, h2⟩ := asked_zero has
      unfold checkErr
      rw [if_pos h1, h2]
      rfl
    rw [hch] at K8
    rw [has] at K9
    rw [← hct] at K10
    have HCB := Lib.hid hcb
    have HLE := Lib.hid (choTo_len fs)
    generalize groupsN n fs (allM fs.length) = G at *
    generalize checkA (m : Int) (rkL n fs) = ca at *
    generalize checkB (m : Int) (rkL n fs) = cb at *
    generalize cornersL (m : Int) (rkL n fs) = T at *
    clear hg has hct hcb hgr hch hi hb hE
    go_wp2_with fail
    refine K8.out.mono ?_
    rintro e w2 ⟨rfl, hb⟩
    have HW2 := Lib.hid hb
    clear hb
    go_wp2_with fail
    refine (K9.out w2 HW2.out).mono ?_
    rintro e w3 ⟨A3, c3, rfl, hcr, hb⟩
    have HW3 := Lib.hid (below_step HW2.out hb)
    have HBD3 := Lib.hid (Crn.beds hcr (by omega))
    clear hcr hb
    go_wp2_with fail
    refine (K10.out w3 HW3.out).mono ?_
    rintro e w4 ⟨rfl, hb⟩
    have HW4 := Lib.hid (below_step HW3.out hb)
    have HBD4 := Lib.hid (HBD3.out.below hb)
    clear hb
    go_wp2_with fail
    refine (K11.out w4 HW4.out).mono ?_
    rintro e w5 ⟨rfl, hb⟩
    have HW5 := Lib.hid (below_step HW4.out hb)
    have HBD5 := Lib.hid (HBD4.out.below hb)
    clear hb K8 K9 K10 K11 HBD3 HBD4
    go_wp2
    go_loopw [15] (fun ii wr => ∃ i : Nat, i ≤ T.length ∧ ii = .int .i64 (i : Int) ∧ Hid (Below w5.heap.size w5 wr)) (fun ii _ => T.length - (intOf ii).toNat)
    case atStart => exact ⟨0, by omega, rfl, Lib.hid (Below.refl _ _)⟩
    case round => as_aux_lemma =>
      obtain ⟨i, hi, rfl, HB⟩ := hrel
      by_cases hiT : i < T.length
      · have i0 : (0 : Int) ≤ (i : Int) := by omega
        have iT : (i : Int) < (T.length : Int) := by omega
        obtain ⟨g, o, rfl, Bi, di, hcell, _, _, hints⟩ := (HBD5.out.below HB.out).at_ hiT
        obtain ⟨hr1, hr2, hr3⟩ := HCB.out (T.getD i []) (by rw [List.getD_eq_getElem?_getD, List.getElem?_eq_getElem hiT]; exact List.getElem_mem hiT)
        rw [hr1] at hcell hints
        generalize T.getD i [] = r at *
        have HR01 := Lib.hid hr2
        have HBAS := Lib.hid hr3
        have HSA : Hid (∀ j, j < m → setTo r (j + 1) = setTo r j + if r.getD j 0 = 1 then 2 ^ j else 0) := Lib.hid fun j hj => setTo_add r (by omega)
        have HSL : Hid (∀ j, j ≤ m → setTo r j < 64) := Lib.hid fun j hj => Nat.lt_of_lt_of_le (setTo_lt r j) (Nat.le_trans (Nat.pow_le_pow_right (by omega) (show j ≤ 6 by omega)) (by decide))
        have HS0 : Hid (setTo r 0 = 0) := Lib.hid rfl
        have HINT := Lib.hid hints
        clear hr1 hr2 hr3 hints
        go_wp2
        go_loopw [16, 17] (fun si ji wq => ∃ j : Nat, j ≤ m ∧ ji = .int .i64 (j : Int) ∧ si = .int .i64 (setTo r j : Int) ∧ wr = wq) (fun _ ji _ => m - (intOf ji).toNat)
        case atStart => exact ⟨0, by omega, rfl, by rw [HS0.out]; rfl, rfl⟩
        case round => as_aux_lemma =>
          obtain ⟨j, hj, rfl, rfl, rfl⟩ := hrel
          by_cases hjm : j < m
          · have j0 : (0 : Int) ≤ (j : Int) := by omega
            have jm : (j : Int) < (m : Int) := by omega
            obtain ⟨b2, o2, rfl, c2⟩ := HINT.out.at_ hjm
            have HSA1 := Lib.hid (HSA.out j hjm)
            have hsl := HSL.out j (by omega)
            rcases HR01.out j with hv | hv
            · rw [hv] at c2 HSA1
              have HQ : Hid (setTo r (j + 1) = setTo r j) := Lib.hid (by rw [HSA1.out]; simp)
              clear hv HSA1
              generalize setTo r j = s at *
              have hw0 : IntKind.i64.wrap ((s : Int) + 0) = (s : Int) := by rw [Int.add_zero]; exact IntWalk.i64_in _ (by omega)
              go_wp2
              go_roundw
              case rel => exact ⟨j + 1, by omega, by go_num, by rw [HQ.out], trivial⟩
              case measure => simp [intOf]; omega
            · rw [hv] at c2 HSA1
              obtain ⟨N, hN, hshl⟩ := shl_one j (by omega)
              have HQ : Hid (setTo r (j + 1) = setTo r j + N) := Lib.hid (by rw [HSA1.out, if_pos rfl, hN])
              have hN64 : N ≤ 64 := by rw [hN]; exact Nat.le_trans (Nat.pow_le_pow_right (by omega) (show j ≤ 6 by omega)) (by decide)
              clear hv HSA1 hN
              generalize setTo r j = s at *
              have hw0 : IntKind.i64.wrap ((s : Int) + (N : Int)) = (s : Int) + (N : Int) := IntWalk.i64_in _ (by omega)
              go_wp2
              go_roundw
              case rel => exact ⟨j + 1, by omega, by go_num, by rw [HQ.out, Int.natCast_add], trivial⟩
              case measure => simp [intOf]; omega
          · obtain rfl : j = m := by omega
            obtain ⟨hg1, hg2⟩ := KG.out _ HBAS.out
            have HB6 := Lib.hid (HS1.out.below (below_step HW5.out HB.out))
            have K12 := Lib.hid (f12_any A j c fs (setTo r j) wr HB6.out (by omega))
            have K11 := Lib.hid fun A' c' W hF => f11_any n A' (cho fs (setTo r j)).length c' (cho fs (setTo r j)) W (fun _ => hF) rfl (by unfold cho; have := HLE.out (setTo r j) fs.length; omega)
            rw [hg1, hg2] at K11
            clear hg1 hg2
            generalize cho fs (setTo r j) = ch at *
            generalize setTo r j = s at *
            go_wp2_with fail
            refine K12.out.mono ?_
            rintro e w6 ⟨A6, c6, rfl, hF, hb⟩
            have HB7 := Lib.hid (below_step HB.out hb)
            have K11b := Lib.hid (K11.out A6 c6 w6 hF)
            clear hF hb K11
            go_wp2_with fail
            refine K11b.out.mono ?_
            rintro e w7 ⟨rfl, hb⟩
            have HB8 := Lib.hid (below_step HB7.out hb)
            clear hb
            go_wp2
            go_roundw
            case rel => exact ⟨i + 1, by omega, by go_num, HB8⟩
            case measure => simp [intOf]; omega
      · obtain rfl : i = T.length := by omega
        go_wp2_with fail
        refine (f7_any _).mono ?_
        rintro e w6 ⟨rfl, hb⟩
        have HB6 := Lib.hid (below_step HB1.out (below_step (below_step HW5.out HB.out) hb))
        clear hb
        go_wp2
        go_ret
        exact ⟨rfl, HB6.out⟩
  · clear hb
    go_wp2_with fail
    refine (f7_any _).mono ?_
    rintro e w2 ⟨rfl, hb⟩
    have HB2 := Lib.hid (below_step HB1.out hb)
    clear hb
    go_wp2
    go_ret
    exact ⟨rfl, HB2.out⟩
end Go.Proofs.YtmepndnckcpgjaaGreat
