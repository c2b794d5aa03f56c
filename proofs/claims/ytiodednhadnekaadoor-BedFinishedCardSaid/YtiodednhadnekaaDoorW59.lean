/- Walks: the specification's Mate. -/
import Derived.Test.YtiodednhadnekaaDoorW58
namespace Go.Proofs.YtiodednhadnekaaDoor
open Go.RowKit Go.Deep
attribute [local go_sem ↓] Go.wp_at_zero Go.wp_at_succ

theorem noneG_len (n : Nat) : (noneG n).length = n := gridL_len _ _
theorem noneG_get {n r : Nat} (hr : r < n) : (noneG n).getD r [] = List.replicate n (-1) := by
  unfold noneG
  rw [gridL_get _ hr]
  apply List.ext_getElem (by simp [lineM])
  intro i _ _
  simp [lineM]
set_option maxRecDepth 100000 in
set_option maxHeartbeats 8000000 in
/-- dibberref01.Mate -/
theorem f34_any (A : Option Addr) (n c : Nat) (b : List (List Int)) (w : World) (hs : Beds w A n c b) :
    Calls Tryd.prog 34 #[.slice A n c] w fun e w' => ∃ A' k c', e = .returned (.tuple #[.slice A' k c', .int .i64 (mateE b)]) ∧ Beds w' A' k c' (mateL b) ∧ Below w.heap.size w w' := by
  have K21 := Lib.hid (f21_any A n c b w hs)
  have hbl := hs.len
  have hsm := hs.small
  cases hf : fullB b
  · rw [hf] at K21
    have hno : ¬ mateOk b := fun h => by rw [h.1] at hf; cases hf
    have HE : Hid (mateE b = 2 ∧ mateL b = []) := by unfold mateE mateL; rw [if_neg hno, if_neg hno]; exact ⟨rfl, rfl⟩
    clear hs hf hno
    go_enter Tryd.func34, Tryd.ntmps34
    go_wp2_with fail
    refine K21.out.mono ?_
    rintro e w1 ⟨rfl, rfl⟩
    go_wp2
    go_ret2
    exact ⟨none, 0, 0, by rw [HE.out.1]; rfl, by rw [HE.out.2]; exact Beds.nil _, Below.refl _ _⟩
  rw [hf] at K21
  by_cases h5 : 5 < n
  · have hno : ¬ mateOk b := fun h => by have := h.2; omega
    have HE : Hid (mateE b = 2 ∧ mateL b = []) := by unfold mateE mateL; rw [if_neg hno, if_neg hno]; exact ⟨rfl, rfl⟩
    clear hs hf hno
    go_enter Tryd.func34, Tryd.ntmps34
    go_wp2_with fail
    refine K21.out.mono ?_
    rintro e w1 ⟨rfl, rfl⟩
    go_wp2
    go_ret2
    exact ⟨none, 0, 0, by rw [HE.out.1]; rfl, by rw [HE.out.2]; exact Beds.nil _, Below.refl _ _⟩
  obtain ⟨hn1, hn7, hfull⟩ := fullB_iff.1 hf
  rw [hbl] at hn1 hn7 hfull
  have hok : mateOk b := ⟨hf, by omega⟩
  obtain ⟨ml1, ml2⟩ := mate_law hn1 hfull
  have HL : Hid (mateL b = (refF n b (n * n) 0 (noneG n)).getD []) := Lib.hid (by unfold mateL; rw [if_pos hok, hbl]; exact ml1)
  have HE : Hid (mateE b = if refF n b (n * n) 0 (noneG n) = none then 10 else 0) := Lib.hid (by
    unfold mateE
    rw [if_pos hok]
    have e : mateL b = [] ↔ refF n b (n * n) 0 (noneG n) = none := by
      unfold mateL
      rw [if_pos hok, hbl]; exact ml2.symm
    by_cases h : refF n b (n * n) 0 (noneG n) = none
    · rw [if_pos h, if_pos (e.2 h)]
    · rw [if_neg h, if_neg (fun h2 => h (e.1 h2))])
  have HR := Lib.hid (refF_spec (n := n) (b := b) (n * n) 0 (noneG n) (by omega) (part_none n b))
  have HF := Lib.hid hfull
  have HS := Lib.hid hs
  have HCL := Lib.hid (noneG_len n)
  obtain ⟨N, hN⟩ : ∃ N, N = n * n := ⟨_, rfl⟩
  have hN49 : N ≤ 49 := by rw [hN]; exact Nat.mul_le_mul hn7 hn7
  have eN : (n : Int) * (n : Int) = (N : Int) := by rw [hN]; simp
  have hmk := make_bools N (by omega)
  have HN := Lib.hid hN
  have hdn : decide (5 < n) = false := decide_eq_false (by omega)
  clear hs hf hfull hok ml1 ml2 hN
  go_enter Tryd.func34, Tryd.ntmps34
  go_wp2_with fail
  refine K21.out.mono ?_
  rintro e w1 ⟨rfl, rfl⟩
  go_wp2
  go_loopw [6, 5] (fun ri u wr => ∃ (r : Nat) (v : Value), r ≤ n ∧ ri = .int .i64 (r : Int) ∧ v = u ∧ BRowA wr w.heap.size v ((noneG n).take r) ∧ Below w.heap.size w wr) (fun ri _ _ => n - (intOf ri).toNat)
  case atStart => exact ⟨0, _, by omega, rfl, rfl, BRowA.nil _ _, Below.refl _ _⟩
  case round => as_aux_lemma =>
    obtain ⟨r, v, hr, rfl, rfl, hbr, hbel⟩ := hrel
    by_cases hrn : r < n
    · obtain ⟨vs, hv1, hv2, hv3, hv4⟩ := hbr
      have HT : Hid ((noneG n).take (r + 1) = (noneG n).take r ++ [List.replicate n (-1)]) := Lib.hid (by rw [take_next [] (by rw [HCL.out]; exact hrn), noneG_get hrn])
      have HSZ : Hid (w.heap.size ≤ wr.heap.size) := hbel.size
      have HBL := Lib.hid hbel
      have hvl : Hid (vs.length ≤ 1000000) := by
        show vs.length ≤ 1000000
        rw [hv2, List.length_take]; omega
      have HV : Hid (∀ W, Below wr.heap.size wr W → RowV W w.heap.size v vs) := Lib.hid fun W h => hv1.below h
      have HP := Lib.hid (fun (w1 w' : World) (u v' : Value) (hb : Below wr.heap.size wr w1) (hu : Row w1 wr.heap.size u (List.replicate n (-1))) (hg : w1.grownBy w' v.ownBlock) (hr : RowV w' w.heap.size v' (vs ++ [u])) => BRowA.push hv1 hv2 hv3 hv4 hb hu hbel.size hg hr)
      have r0 : (0 : Int) ≤ (r : Int) := by omega
      have rn : (r : Int) < (n : Int) := by omega
      clear hv1 hv2 hv3 hv4 hbel
      go_wp2
      go_loopw [8, 7] (fun ci u wi => ∃ (c : Nat) (v2 : Value), c ≤ n ∧ ci = .int .i64 (c : Int) ∧ v2 = u ∧ Row wi wr.heap.size v2 (List.replicate c (-1)) ∧ Below wr.heap.size wr wi) (fun ci _ _ => n - (intOf ci).toNat)
      case atStart => exact ⟨0, _, by omega, rfl, rfl, Row.nil _ _, Below.refl _ _⟩
      case round => as_aux_lemma =>
        obtain ⟨c, v2, hc, rfl, rfl, hrow, hbi⟩ := hrel
        have HROW := Lib.hid hrow
        have HBI := Lib.hid hbi
        by_cases hcn : c < n
        · have c0 : (0 : Int) ≤ (c : Int) := by omega
          have cn : (c : Int) < (n : Int) := by omega
          have HSU : Hid (List.replicate c (-1 : Int) ++ [-1] = List.replicate (c + 1) (-1)) := Lib.hid (List.replicate_succ' ..).symm
          have HNEW : Hid (Own (wr.alloc (.cells #[.int .i64 (-1)] 3)) wr.heap.size [-1]) := heap_alloc_new wr _
          have hll : (List.replicate c (-1 : Int)).length = c := List.length_replicate
          clear hrow hbi
          go_wp2_with (at_builtin; refine wpList_pushAll rfl (.tmp 28) (.tmp 29) rfl _ v2 (List.replicate c (-1)) rfl (HROW.out.alloc _) (some ⟨wr.heap.size, 0, none⟩) 1 1 [-1] rfl ?hn ?hi ?hl ?hb ?hr)
          case hn => exact fun h => by cases h
          case hi => exact HNEW.out.ints' rfl (by omega)
          case hl => rw [hll]; omega
          case hb => exact Nat.le_trans HBI.out.size (below_alloc wr _).size
          case hr =>
            intro v3 w3 hr3 hg3
            rw [HSU.out] at hr3
            have HR3 := Lib.hid hr3
            have HB3 := Lib.hid (below_grown (HBI.out.alloc HBI.out.size (.cells #[.int .i64 (-1)] 3)) hg3 (Nat.le_trans HBI.out.size (below_alloc wr _).size) (HROW.out.alloc _) (Nat.le_refl _))
            clear hr3 hg3
            go_wp2
            go_roundw
            case rel => exact ⟨c + 1, _, by omega, by go_num, rfl, HR3.out, HB3.out⟩
            case measure => simp [intOf]; omega
        · obtain rfl : c = n := by omega
          have hll : (List.replicate c (-1 : Int)).length = c := List.length_replicate
          obtain ⟨A1, c1, rfl, _⟩ := hrow.form3 (by rw [hll]; omega)
          rw [hll] at HROW
          have hcn3 := cell_new wr #[.slice A1 c c1] 29 0
          have HBA := Lib.hid (hbi.alloc hbi.size (.cells #[.slice A1 c c1] 29))
          have HRA : Hid (Row (wr.alloc (.cells #[.slice A1 c c1] 29)) _ (.slice A1 c c1) (List.replicate c (-1))) := Lib.hid (HROW.out.alloc _)
          rw [hll]
          clear hrow hbi
          go_wp2_with (at_builtin; refine wpList_pushV rfl (.tmp 31) (.tmp 33) rfl w.heap.size v vs rfl (HV.out _ HBA.out) wr.heap.size 1 A1 c c1 rfl hcn3 hvl.out ?hb ?hr)
          case hb => exact Nat.le_trans HSZ.out HBA.out.size
          case hr =>
            intro v3 w3 hr3 hg3 _
            have HB3 := Lib.hid (HP.out _ _ _ _ HBA.out HRA.out hg3 hr3)
            have HBL3 := Lib.hid (below_grownV (HBL.out.trans (HBA.out.mono HSZ.out)) hg3 (Nat.le_trans HSZ.out HBA.out.size) (HV.out _ HBA.out) (Nat.le_refl _))
            clear hr3 hg3 hcn3
            go_wp2
            go_roundw
            case rel => exact ⟨r + 1, _, by omega, by go_num, rfl, by rw [HT.out]; exact HB3.out, HBL3.out⟩
            case measure => simp [intOf]; omega
    · obtain rfl : r = n := by omega
      rw [List.take_of_length_le (by rw [HCL.out]; omega)] at hbr
      obtain ⟨gO, gr, cr, cO, rfl, hg, hcO, hgO, hgr⟩ := hbr.grid (gridL_shape _ _) hn1 hn7
      obtain ⟨wz, hwz⟩ : ∃ z, z = wr.alloc (.cells (List.replicate N (Value.bool false)).toArray 4) := ⟨_, rfl⟩
      have hlr : ∀ q, q < r → gr q < wr.heap.size := fun q hq => lt_of_cell (hg.val q 0 hq (by omega))
      have hlO : gO < wr.heap.size := lt_of_cell (hg.hdr 0 (by omega))
      have hbz : Below w.heap.size w wz := by rw [hwz]; exact hbel.alloc hbel.size _
      have hoB : OwnB wz wr.heap.size (seenL r b (noneG r) 0) := by rw [hwz, seenL_zero, ← HN.out]; exact OwnB.made wr N
      have hgz : GridM wz gO gr cr r (noneG r) := by rw [hwz]; exact hg.below (below_alloc wr _)
      have K79 : Hid (Calls Tryd.prog 79 #[.slice A r c, .slice (some ⟨gO, 0, none⟩) r cO, .slice (some ⟨wr.heap.size, 0, none⟩) N N, .int .i64 0] wz fun e w' => Kept (fun _ i => OwnS r gr wr.heap.size i) wz w' ∧ MateR gO wr.heap.size r gr cr b (noneG r) 0 (refF r b (r * r) 0 (noneG r)) e w') := Lib.hid (by
        have h := f79_any r c cO gO wr.heap.size gr cr b w A hn1 hn7 hcO HF.out HS.out hgr hbel.size (by omega) (fun q hq e => by have := hlr q hq; omega) (r * r) 0 (noneG r) wz (by omega) (part_none r b) hgz hoB hbz
        rw [← HN.out] at h ⊢
        exact h)
      have HKB : Hid (∀ W, Kept (fun _ i => OwnS r gr wr.heap.size i) wz W → Below w.heap.size w W) := Lib.hid fun W k => k.below hbz hbz.size (fun i hi => by
        rcases hi with ⟨q, hq, e⟩ | e
        · rw [e]; exact hgr q hq
        · rw [e]; exact hbel.size)
      simp only [List.toArray_replicate] at hwz
      generalize refF r b (r * r) 0 (noneG r) = R at *
      clear hbr hg hgO hgr hlr hlO hbz hoB hgz hbel
      go_wp2_with fail
      rw [← hwz]
      clear hwz
      refine K79.out.mono ?_
      rintro e w7 ⟨hk7, hR7⟩
      have HB7 := Lib.hid (HKB.out w7 hk7)
      cases R with
      | some t =>
        obtain ⟨rfl, hg7⟩ := hR7
        have HX : Hid (Beds w7 (some ⟨gO, 0, none⟩) r cO (mateL b)) := Lib.hid (by rw [HL.out]; exact hg7.beds (HR.out.1 t rfl).1.1.shape hn7 hcO)
        have HEE : Hid (mateE b = 0) := Lib.hid (by rw [HE.out, if_neg (by simp)])
        clear hk7 hg7
        go_wp2
        go_ret2
        exact ⟨_, _, _, by rw [HEE.out]; rfl, HX.out, HB7.out⟩
      | none =>
        obtain ⟨rfl, _, _⟩ := hR7
        have HX : Hid (mateL b = []) := Lib.hid (by rw [HL.out]; rfl)
        have HEE : Hid (mateE b = 10) := Lib.hid (by rw [HE.out, if_pos rfl])
        clear hk7
        go_wp2
        go_ret2
        exact ⟨none, 0, 0, by rw [HEE.out]; rfl, by rw [HX.out]; exact Beds.nil _, HB7.out⟩
end Go.Proofs.YtiodednhadnekaaDoor
