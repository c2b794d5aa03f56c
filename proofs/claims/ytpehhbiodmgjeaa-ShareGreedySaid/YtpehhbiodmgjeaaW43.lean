/- Walks: the specification's Corners. -/
import Derived.Test.YtpehhbiodmgjeaaW41
import Derived.Test.YtpehhbiodmgjeaaW42
import Derived.Test.YtpehhbiodmgjeaaW9
import Derived.Test.YtpehhbiodmgjeaaPlain17
namespace Go.Proofs.Ytpehhbiodmgjeaa
open Go.RowKit
theorem map_zs_get {T : List (List Nat)} {i : Nat} (h : i < T.length) : (T.map zs).getD i [] = zs (T.getD i []) := by
  simp [List.getD_eq_getElem?_getD, h]
set_option maxRecDepth 100000 in
set_option maxHeartbeats 4000000 in
/-- dibberref08.Corners -/
theorem f40_any (A : Option Addr) (n : Int) (len c : Nat) (xs : List Int) (w : World) (hs : Ints w A len xs) :
    Calls Try.prog 40 #[.int .i64 n, .slice A len c] w fun e w' => ∃ A' c', e = .returned (.tuple #[.slice A' (cornersL n xs).length c', .int .i64 (asked n xs)]) ∧ Beds w' A' (cornersL n xs).length c' (cornersL n xs) ∧ Below w.heap.size w w' := by
  have k46 := Lib.hid (f46_any A n len c xs w hs)
  by_cases h : asked n xs = 0
  · obtain ⟨hok, hT⟩ := asked_zero h
    obtain ⟨n', rfl, h1, h6, hln, hbd, h0⟩ := costOk_facts hok
    have HL : Hid (len = 2 ^ n') := by rw [← hs.len]; exact hln
    have HS := Lib.hid hs
    have HN : Hid (asked (n' : Int) xs = 0) := Lib.hid h
    have HCL : Hid (cornersL (n' : Int) xs = putTo (gsL n' xs) (ordF n' n' []).length) := Lib.hid (by unfold cornersL; rw [if_pos h, Int.toNat_natCast]; unfold crnL; rw [← gsL_len n' xs, putTo_all])
    rw [h] at k46
    have HPS : Hid (∀ i, i < (ordF n' n' []).length → putTo (gsL n' xs) (i + 1) = putF (putTo (gsL n' xs) i) (greedyL n' xs ((ordF n' n' []).getD i []))) := Lib.hid fun i hi => by rw [putTo_succ (by rw [gsL_len]; exact hi), gsL_get xs hi]
    have HPL : Hid (∀ i, (putTo (gsL n' xs) i).length ≤ i) := Lib.hid (putTo_len _)
    have HPR : Hid (∀ i j, j < (putTo (gsL n' xs) i).length → ((putTo (gsL n' xs) i).getD j []).length = n') := Lib.hid fun i j hj => by
      rw [List.getD_eq_getElem?_getD, List.getElem?_eq_getElem hj]
      exact gsL_row (putTo_mem (List.getElem_mem hj))
    have HORD : Hid (∀ i, i < (ordF n' n' []).length → ((ordF n' n' []).getD i []).length = n' ∧ ((ordF n' n' []).getD i []).Nodup ∧ ∀ x ∈ (ordF n' n' []).getD i [], x < n') := Lib.hid fun i hi => ord_mem.1 (ord_getD hi)
    have HMANY : Hid ((ordF n' n' []).length ≤ 46656) := Lib.hid (ord_many h6)
    have HOL : Hid (((ordF n' n' []).map zs).length = (ordF n' n' []).length) := Lib.hid (List.length_map _)
    have HZ : Hid (putTo (gsL n' xs) 0 = []) := rfl
    have HZG : Hid (∀ i, i < (ordF n' n' []).length → ((ordF n' n' []).map zs).getD i [] = zs ((ordF n' n' []).getD i [])) := Lib.hid fun i hi => map_zs_get hi
    obtain ⟨M, hM⟩ : ∃ z, z = (ordF n' n' []).length := ⟨_, rfl⟩
    have k72 : Hid (∀ W, Calls Try.prog 72 #[.int .i64 (n' : Int), .slice none 0 0] W fun e w' => ∃ A' c' vs, e = .returned (.slice A' M c') ∧ Beds3 w' A' c' vs ((ordF n' n' []).map zs) ∧ Below W.heap.size W w') := Lib.hid fun W => by rw [hM]; exact f72_any n' h6 W
    rw [← hM] at HCL HPS HORD HMANY HOL HZG
    have HML := HMANY.out
    clear h hok hT hln h0 hs hM
    go_enter Try.func40, Try.ntmps40
    go_wp2_with fail
    refine k46.out.mono ?_
    rintro e w1 ⟨rfl, md, rfl⟩
    go_wp2_with fail
    refine (k72.out _).mono ?_
    rintro e w1 ⟨A1, c1, us, rfl, hb1, hbl⟩
    have HB1 := Lib.hid hb1
    have HBL : Hid (Below w.heap.size w w1) := Lib.hid (below_step (below_drewN (Below.refl _ _) md) hbl)
    clear hb1 hbl
    go_wp2
    go_loopw [9, 8] (fun ii oi wr => ∃ (i : Nat) (A' : Option Addr) (c' : Nat) (vs : List Value), i ≤ M ∧ ii = .int .i64 (i : Int) ∧ oi = .slice A' (putTo (gsL n' xs) i).length c' ∧ Hid (Beds3 wr A' c' vs (putTo (gsL n' xs) i)) ∧ Hid ((putTo (gsL n' xs) i).length = 0 → A' = none ∧ c' = 0) ∧ Hid (Below w1.heap.size w1 wr)) (fun ii _ _ => M - (intOf ii).toNat)
    case atStart => exact ⟨0, none, 0, [], by omega, rfl, by rw [HZ.out]; rfl, Lib.hid (by rw [HZ.out]; exact ⟨Rows3.nil _, by simp, by simp, fun _ => ⟨rfl, rfl⟩, fun h => by cases h⟩), Lib.hid fun _ => ⟨rfl, rfl⟩, Lib.hid (Below.refl _ _)⟩
    case round => as_aux_lemma =>
      obtain ⟨i, A', c', vs, hi, rfl, rfl, HO, HA, HB⟩ := hrel
      by_cases him : i < M
      · obtain ⟨g, o, rfl, B, d, hc1, hd, hBn, hi1⟩ := (HB1.out.beds).at_ (k := i) (by rw [HOL.out]; exact him)
        obtain ⟨q1, q2, q3⟩ := HORD.out i him
        rw [HZG.out i him, zs_len, q1] at hc1 hi1 hd
        have hc1 := (HB.out.cell (lt_of_cell hc1)).trans hc1
        have hi1 := hi1.below HB.out
        have i0 : (0 : Int) ≤ (i : Int) := by omega
        have im : (i : Int) < (M : Int) := by omega
        have K := Lib.hid (f70_any A B n' len c n' d xs (zs ((ordF n' n' []).getD i [])) wr ((HS.out.below HBL.out).below (HB.out.mono (Nat.le_refl _))) hi1 h6 HL.out hbd (fun j hj => by
          rw [zs_get]
          have hjl : j < ((ordF n' n' []).getD i []).length := by omega
          have := q3 _ (List.getElem_mem hjl)
          rw [List.getD_eq_getElem?_getD, List.getElem?_eq_getElem hjl]
          simp only [Option.getD_some]
          omega) (by rw [zs_back]; exact q2))
        rw [zs_back] at K
        have HS1 := Lib.hid (HPS.out i him)
        have HLI := HPL.out i
        have HRI := Lib.hid (HPR.out i)
        have HGL : Hid ((greedyL n' xs ((ordF n' n' []).getD i [])).length = n') := Lib.hid (greedyL_len _ _ _)
        generalize greedyL n' xs ((ordF n' n' []).getD i []) = G at *
        clear q1 q2 q3 hi1 hd hBn
        go_wp2_with fail
        refine K.out.mono ?_
        rintro e w2 ⟨rfl, hown, hbl2⟩
        have K73 := Lib.hid (f73_any A' c' vs (putTo (gsL n' xs) i) (some ⟨wr.heap.size, 0, none⟩) n' n' G w2 ⟨HO.out.1.below hbl2, HO.out.2.1, HO.out.2.2.1, HO.out.2.2.2.1, fun hp => by
          obtain ⟨g', o', e', h'⟩ := HO.out.2.2.2.2 hp
          refine ⟨g', o', e', fun j hj => ?_⟩
          obtain ⟨B', n2, d', h2⟩ := HO.out.1.slice hj
          exact (hbl2.cell (lt_of_some (h' j hj) h2)).trans (h' j hj)⟩ (hown.ints' HGL.out (by omega)) (Nat.le_refl _) (fun h => by cases h) hown.own3 HRI.out (by omega) HA.out)
        have HB2 : Hid (Below w1.heap.size w1 w2) := Lib.hid (HB.out.trans (hbl2.mono HB.out.size))
        clear hown hbl2
        go_wp2_with fail
        refine K73.out.mono ?_
        rintro e w3 ⟨A3, c3, vs3, rfl, hb3, hbl3⟩
        have HB3 : Hid (Below w1.heap.size w1 w3) := Lib.hid (HB2.out.trans (hbl3.mono HB2.out.size))
        have HO3 := Lib.hid hb3
        clear hb3 hbl3
        go_wp2
        go_roundw
        case rel => exact ⟨i + 1, A3, c3, vs3, by omega, by go_num, by rw [HS1.out], Lib.hid (by rw [HS1.out]; exact HO3.out), Lib.hid (fun h => by
          rw [HS1.out] at h
          have := (putF_len (putTo (gsL n' xs) i) G).2
          omega), HB3⟩
        case measure => simp [intOf]; omega
      · obtain rfl : i = M := by omega
        go_wp2
        go_ret2
        refine ⟨A', c', ?_, ?_, HBL.out.trans (HB.out.mono HBL.out.size)⟩
        · rw [HCL.out, HN.out]; rfl
        · rw [HCL.out]; exact HO.out.beds
  · have e1 : Hid (cornersL n xs = []) := by unfold cornersL; rw [if_neg h]; rfl
    have hq : (asked n xs != 0) = true := by simpa using h
    clear h
    go_enter Try.func40, Try.ntmps40
    go_wp2_with fail
    refine k46.out.mono ?_
    rintro e w1 ⟨rfl, md, rfl⟩
    go_wp2
    go_ret2
    exact ⟨none, 0, by rw [e1.out]; rfl, by rw [e1.out]; exact Beds.nil _, below_drewN (Below.refl _ _) _⟩
end Go.Proofs.Ytpehhbiodmgjeaa
