/- Walk: the specification's Winnow. -/
import Derived.Test.YtfaenbaaadjbbaaW46
import Derived.StillTailTactics
namespace Go.Proofs.Ytfaenbaaadjbbaa
open Go.RowKit

theorem winTo_zero (ss ws : List Int) (x : Int) (j : Nat) : winTo ss ws x 0 j = ws.getD j 0 := by unfold winTo; rw [if_neg (by omega)]
theorem winTo_at (ss ws : List Int) (x : Int) (t : Nat) : winTo ss ws x t t = ws.getD t 0 := by unfold winTo; rw [if_neg (by omega)]
theorem winTo_now (ss ws : List Int) (x : Int) (t : Nat) : winTo ss ws x (t + 1) t = if ss.getD t 0 = 1 then ws.getD t 0 * (2 * x) else ws.getD t 0 := by
  unfold winTo
  by_cases h2 : ss.getD t 0 = 1
  · rw [if_pos ⟨by omega, h2⟩, if_pos h2]
  · rw [if_neg (fun h => h2 h.2), if_neg h2]
theorem winTo_other (ss ws : List Int) (x : Int) (t j : Nat) (h : j ≠ t) : winTo ss ws x (t + 1) j = winTo ss ws x t j := by
  unfold winTo
  by_cases h1 : j < t
  · by_cases h2 : ss.getD j 0 = 1
    · rw [if_pos ⟨by omega, h2⟩, if_pos ⟨h1, h2⟩]
    · rw [if_neg (fun h => h2 h.2), if_neg (fun h => h2 h.2)]
  · rw [if_neg (fun h3 => by omega), if_neg (fun h3 => h1 h3.1)]
def onesTo2 (t j : Nat) : Int := if j < t then 1 else 0
set_option maxRecDepth 100000 in
set_option maxHeartbeats 8000000 in
theorem f48_good (A B : Option Addr) (n k c d : Nat) (said : List (List Int)) (came : List Int) (w : World) (hs : IntsS w A k said) (ho : Ints w B k came) (h0 : recErr n said came = 0) (hn1 : 1 ≤ n) (hn : n ≤ 20) (hk : k ≤ 200)
    (hrow : ∀ i, i < k → (said.getD i []).length = n ∧ (∀ j, (said.getD i []).getD j 0 = 0 ∨ (said.getD i []).getD j 0 = 1) ∧ (came.getD i 0 = 0 ∨ came.getD i 0 = 1)) :
    Calls Try.prog 48 #[.int .i64 (n : Int), .slice A k c, .slice B k d] w (SlE w (toldL (winF said came n) k) 0) := by
  have k35 := Lib.hid (f35_any A B n k c k d said came w hs ho)
  rw [h0] at k35
  have HS := Lib.hid hs
  have HO := Lib.hid ho
  have HR := Lib.hid hrow
  have HWIN : Hid (∀ i, i < k → ∀ f, 0 ≤ (winW said came n i).getD f 0 ∧ (winW said came n i).getD f 0 ≤ 40) := fun i hi f => by
    have := winW_in (n := n) i (fun j hj => ⟨fun f _ => (hrow j (by omega)).2.1 f, (hrow j (by omega)).2.2⟩) f
    omega
  have hmk := make_ints n (by omega) w
  obtain ⟨w2, hw2⟩ : ∃ w2, w2 = w.alloc (.cells ((List.replicate n (0 : Int)).map (Value.int .i64)).toArray 3) := ⟨_, rfl⟩
  rw [← hw2] at hmk
  have O2 : Hid (Own w2 w.heap.size (List.replicate n 0)) := by rw [hw2]; exact Own.made w n
  have B2 : Hid (Below w.heap.size w w2) := by rw [hw2]; exact below_alloc _ _
  have HZ2 : Hid (w2.heap.size = w.heap.size + 1) := by rw [hw2]; unfold Hid; simp
  clear hs ho h0 hrow hw2
  go_enter Try.func48, Try.ntmps48
  go_wp2_with fail
  refine k35.out.mono ?_
  rintro e w1 ⟨rfl, rfl⟩
  go_wp2_with fail
  go_loopw [10] (fun j wr => ∃ (t : Nat) (L : List Int), t ≤ n ∧ j = .int .i64 (t : Int) ∧ Own wr w.heap.size L ∧ Hid (L.length = n ∧ ∀ f, f < n → L.getD f 0 = onesTo2 t f) ∧ Below w.heap.size w wr ∧ w2.heap.size ≤ wr.heap.size) (fun j _ => n - (intOf j).toNat)
  case atStart => exact ⟨0, _, by omega, rfl, O2.out, ⟨by simp, fun f hf => by simp [onesTo2, List.getD_eq_getElem?_getD, hf]⟩, B2.out, Nat.le_refl _⟩
  case round => as_aux_lemma =>
    obtain ⟨t, L, ht, rfl, hown, hL, hbel, hsz⟩ := hrel
    have HOW := Lib.hid hown
    have HB := Lib.hid hbel
    by_cases hlt : t < n
    · have hco := hown.cell t (by rw [hL.out.1]; exact hlt)
      have hfz := hown.frozen t
      generalize L.getD t 0 = y at *
      have t0 : (0 : Int) ≤ (t : Int) := by omega
      have tn : (t : Int) < (n : Int) := by omega
      clear hown hbel
      go_wp2
      go_roundw
      case rel => exact ⟨t + 1, L.set t 1, by omega, by go_num, HOW.out.set_ t 1, ⟨by rw [List.length_set]; exact hL.out.1, fun f hf => by
        by_cases h : f = t
        · subst h; rw [getS_set _ _ _ (by rw [hL.out.1]; exact hlt)]; unfold onesTo2; rw [if_pos (by omega)]
        · rw [getN_set _ _ _ _ (by rw [hL.out.1]; exact hlt) h, hL.out.2 f hf]
          unfold onesTo2
          by_cases h2 : f < t
          · rw [if_pos h2, if_pos (by omega)]
          · rw [if_neg h2, if_neg (by omega)]⟩, HB.out.setCell (Nat.le_refl _) _, by simp; omega⟩
      case measure => simp [intOf]; omega
    · obtain rfl : t = n := by omega
      have hLe : L = winW said came t 0 := by
        refine getD_ext (by rw [hL.out.1, winW_len]) fun j hj => ?_
        have hj : j < t := by rw [hL.out.1] at hj; exact hj
        rw [hL.out.2 j hj, winW_zero _ _ _ _ hj]
        unfold onesTo2; rw [if_pos hj]
      rw [hLe] at HOW
      clear hown hbel
      go_wp2_with fail
      go_loopw [11, 12, 13, 14, 15, 16] (fun v i _ _ _ _ wr => ∃ q : Nat, q ≤ k ∧ i = .int .i64 (q : Int) ∧ Row wr w2.heap.size v (toldL (winF said came t) q) ∧ Own wr w.heap.size (winW said came t q) ∧ Below w.heap.size w wr ∧ w2.heap.size ≤ wr.heap.size) (fun _ i _ _ _ _ _ => k - (intOf i).toNat)
      case atStart => exact ⟨0, by omega, rfl, Row.nil _ _, HOW.out, HB.out, hsz⟩
      case round => as_aux_lemma =>
        obtain ⟨q, hq, rfl, hrow, hown, hbel, hsz⟩ := hrel
        have HRW := Lib.hid hrow
        have HOW := Lib.hid hown
        have HB := Lib.hid hbel
        by_cases hlt : q < k
        · obtain ⟨b, off, rfl, D, e, hcr, hi⟩ := HS.out.at_ hlt
          obtain ⟨bC, oC, rfl, hcc⟩ := HO.out.at_ hlt
          obtain ⟨r1, r2, r3⟩ := HR.out q hlt
          rw [r1] at hcr hi
          have HCR := Lib.hid hcr
          have HCC := Lib.hid hcc
          have HI := Lib.hid hi
          have HBIT := Lib.hid r2
          have HNX : Hid (∀ ys : List Int, ys.length = t → (∀ j, j < t → ys.getD j 0 = if winF said came t q = came.getD q 0 then (winW said came t q).getD j 0 else winTo (said.getD q []) (winW said came t q) (came.getD q 0) t j) → ys = winW said came t (q + 1)) := fun ys h2 h3 => win_next h2 h3
          have HF : Hid (winF said came t q = if (t : Int) ≤ dotTo (said.getD q []) (winW said came t q) t then 1 else 0) := rfl
          have HWI := Lib.hid (HWIN.out q hlt)
          have HWL := Lib.hid (winW_len said came t q)
          have hst := Lib.hid (toldL_succ (winF said came t) q)
          have hll : Hid ((toldL (winF said came t) q).length ≤ 1000000) := by rw [toldL_len]; unfold Hid; omega
          have HDB := Lib.hid (dot_in (ss := said.getD q []) (ws := winW said came t q) r2 (HWIN.out q hlt))
          have HDS : Hid (∀ j, dotTo (said.getD q []) (winW said came t q) (j + 1) = dotTo (said.getD q []) (winW said came t q) j + (said.getD q []).getD j 0 * (winW said came t q).getD j 0) := fun j => rfl
          have HD0 : Hid (dotTo (said.getD q []) (winW said came t q) 0 = 0) := rfl
          obtain ⟨X, hX⟩ : ∃ X, X = winF said came t q := ⟨_, rfl⟩
          rw [← hX] at hst HF HNX
          obtain ⟨W0, hW0⟩ : ∃ W0, W0 = winW said came t q := ⟨_, rfl⟩
          rw [← hW0] at HWI HWL HDB HDS HD0 HNX HF
          have HOW0 : Hid (Own wr w.heap.size W0) := by rw [hW0]; exact hown
          generalize came.getD q 0 = x at *
          generalize said.getD q [] = row at *
          obtain ⟨wq, rfl⟩ : ∃ wq : World, wq = wr := ⟨_, rfl⟩
          have hq0 : (0 : Int) ≤ (q : Int) := by omega
          have hqk : (q : Int) < (k : Int) := by omega
          have hx0 : 0 ≤ x := by omega
          have hx1 : x ≤ 1 := by omega
          clear hrow hown hbel hcr hcc hi r1 r2 r3 hX hW0 HOW HWIN
          go_wp2_with fail
          go_loopw [13, 14] (fun a j wr => ∃ u : Nat, u ≤ t ∧ j = .int .i64 (u : Int) ∧ a = .int .i64 (dotTo row W0 u) ∧ ∃ z, wr = wq.drewN z) (fun _ j _ => t - (intOf j).toNat)
          case atStart => exact ⟨0, by omega, rfl, by rw [HD0.out], 0, rfl⟩
          case round => as_aux_lemma =>
            obtain ⟨u, hu, rfl, rfl, z0, rfl⟩ := hrel
            obtain ⟨v1, v2⟩ := HDB.out u
            by_cases hlt2 : u < t
            · obtain ⟨bD, oD, rfl, hcd⟩ := HI.out.at_ hlt2
              have c1 := (HB.out.cell (lt_of_cell HCR.out)).trans HCR.out
              have c2 := (HB.out.cell (lt_of_cell hcd)).trans hcd
              have c3 := HOW0.out.cell u (by rw [HWL.out]; exact hlt2)
              have s1 := Lib.hid (HDS.out u)
              have hbk := HBIT.out u
              have hwk := HWI.out u
              have hmul : Hid (0 ≤ W0.getD u 0 * row.getD u 0 ∧ W0.getD u 0 * row.getD u 0 ≤ 40) := by unfold Hid; rcases hbk with h | h <;> rw [h] <;> omega
              have hcomm : Hid (row.getD u 0 * W0.getD u 0 = W0.getD u 0 * row.getD u 0) := Int.mul_comm _ _
              rw [hcomm.out] at s1
              generalize dotTo row W0 u = a at *
              generalize row.getD u 0 = s at *
              generalize W0.getD u 0 = y at *
              have u0 : (0 : Int) ≤ (u : Int) := by omega
              have ut : (u : Int) < (t : Int) := by omega
              obtain ⟨m1, m2⟩ := hmul.out
              have w1 : IntKind.i64.wrap (y * s) = y * s := IntWalk.i64_in _ (by omega)
              have w2' : IntKind.i64.wrap (a + y * s) = a + y * s := IntWalk.i64_in _ (by omega)
              clear hbk hwk
              go_wp2
              go_quiet (fail)
              go_wp2
              go_roundw
              case rel => exact ⟨u + 1, by omega, by go_num, by rw [s1.out], by first | exact ⟨_, rfl⟩ | exact ⟨_, World.drewN_drewN _ _ _⟩⟩
              case measure => simp [intOf]; omega
            · obtain rfl : u = t := by omega
              generalize dotTo row W0 u = a at *
              have HBz := Lib.hid (below_drewN HB.out z0)
              have HRz := Lib.hid (HRW.out.drewN z0)
              have HOz := Lib.hid (HOW0.out.drewN z0)
              have hszz : w2.heap.size ≤ (wq.drewN z0).heap.size := hsz
              generalize wq.drewN z0 = wz at *
              obtain ⟨xx, hxx⟩ : ∃ xx : Int, xx = if (u : Int) ≤ a then 1 else 0 := ⟨_, rfl⟩
              have hXX : Hid (X = xx) := by rw [hxx]; exact HF.out
              have HXX := Lib.hid hxx
              have hcase : (u : Int) ≤ a ∧ xx = 1 ∨ ¬ (u : Int) ≤ a ∧ xx = 0 := by
                by_cases h : (u : Int) ≤ a
                · exact .inl ⟨h, by rw [hxx, if_pos h]⟩
                · exact .inr ⟨h, by rw [hxx, if_neg h]⟩
              clear hxx HF HXX HDB HDS HD0 HOW0
              rcases hcase with ⟨hle, rfl⟩ | ⟨hle, rfl⟩
              all_goals
                go_wp2_with (at_builtin; refine wpList_push rfl (.tmp 62) (.tmp 64) rfl w2.heap.size _ (toldL (winF said came u) q) rfl (HRz.out.alloc _) wz.heap.size 1 _ rfl (cell_new wz _ 3 0) hll.out (by simp; omega) ?_; intro v2 w4 hr4 hg4)
                rw [← hXX.out, hst.out] at hr4
                have B4 : Hid (Below w.heap.size w w4) := below_grown (HBz.out.alloc HBz.out.size _) hg4 (by have := HBz.out.size; simp; omega) (HRz.out.alloc _) (by rw [HZ2.out]; omega)
                have O4 : Hid (Own w4 w.heap.size W0) := (hg4.block w.heap.size (by have := HOz.out.lt; simp; omega) (fun e => by
                  have := World.ownsRow.lt HRz.out _ e.symm
                  rw [HZ2.out] at this
                  omega)).trans (HOz.out.alloc _)
                have R4 := Lib.hid hr4
                have hsz4 : w2.heap.size ≤ w4.heap.size := by have := hg4.size; simp at this; omega
                clear hr4 hg4 HRz HBz HOz
                go_wp2_with fail
                go_loopw [16] (fun j wr => ∃ (v : Nat) (L : List Int), v ≤ u ∧ j = .int .i64 (v : Int) ∧ Own wr w.heap.size L ∧ Hid (L.length = u ∧ ∀ f, f < u → L.getD f 0 = if X = x then W0.getD f 0 else winTo row W0 x v f) ∧ Below w.heap.size w wr ∧ w4.grownBy wr (some w.heap.size)) (fun j _ => u - (intOf j).toNat)
                case atStart => exact ⟨0, W0, by omega, rfl, O4.out, ⟨HWL.out, fun f _ => by rw [winTo_zero]; split <;> rfl⟩, B4.out, World.grownBy.refl _ _⟩
                case round => as_aux_lemma =>
                  obtain ⟨v, L, hv, rfl, hown, hL, hbel, hgr⟩ := hrel
                  have HOWv := Lib.hid hown
                  have HBv := Lib.hid hbel
                  have HGv := Lib.hid hgr
                  by_cases hlt3 : v < u
                  · obtain ⟨bD, oD, rfl, hcd⟩ := HI.out.at_ hlt3
                    have c1 := (hbel.cell (lt_of_cell HCR.out)).trans HCR.out
                    have c2 := (hbel.cell (lt_of_cell hcd)).trans hcd
                    have c4 := (hbel.cell (lt_of_cell HCC.out)).trans HCC.out
                    have c3 := hown.cell v (by rw [hL.out.1]; exact hlt3)
                    have hfz := hown.frozen v
                    have hbk := HBIT.out v
                    have hwk := HWI.out v
                    have hLv : L.getD v 0 = W0.getD v 0 := by rw [hL.out.2 v hlt3, winTo_at]; split <;> rfl
                    rw [hLv] at c3
                    have HLV := Lib.hid hLv
                    have hnow := Lib.hid (winTo_now row W0 x v)
                    have hoth := Lib.hid (fun j h => winTo_other row W0 x v j h)
                    generalize row.getD v 0 = s at *
                    generalize hY : W0.getD v 0 = y at *
                    have HYY := Lib.hid hY
                    clear hY
                    have v0 : (0 : Int) ≤ (v : Int) := by omega
                    have vu : (v : Int) < (u : Int) := by omega
                    have hm : 0 ≤ y * (2 * x) ∧ y * (2 * x) ≤ 80 := by
                      refine ⟨Int.mul_nonneg hwk.1 (by omega), ?_⟩
                      have h1 : y * (2 * x) ≤ y * 2 := Int.mul_le_mul_of_nonneg_left (by omega) hwk.1
                      omega
                    obtain ⟨m1, m2⟩ := hm
                    have w1 : IntKind.i64.wrap (2 * x) = 2 * x := IntWalk.i64_in _ (by omega)
                    have w2' : IntKind.i64.wrap (y * (2 * x)) = y * (2 * x) := IntWalk.i64_in _ (by omega)
                    clear hown hbel hgr hLv
                    by_cases he : s = 1
                    · have hq1 : (s == 1) = true := by simpa using he
                      rw [if_pos he] at hnow
                      clear he
                      by_cases hXx : X = x
                      · first
                          | have hqx : ((1 : Int) != x) = false := by rw [← hXX.out]; simpa using hXx
                          | have hqx : ((0 : Int) != x) = false := by rw [← hXX.out]; simpa using hXx
                        have HXx := Lib.hid hXx
                        clear hXx
                        go_wp2
                        go_roundw
                        case rel => exact ⟨v + 1, L, by omega, by go_num, HOWv.out, ⟨hL.out.1, fun f hf => by
                          by_cases h : f = v
                          · subst h; rw [if_pos HXx.out, HLV.out, HYY.out]
                          · rw [hoth.out f h]; exact hL.out.2 f hf⟩, HBv.out, HGv.out⟩
                        case measure => simp [intOf]; omega
                      · first
                          | have hqx : ((1 : Int) != x) = true := by rw [← hXX.out]; simpa using hXx
                          | have hqx : ((0 : Int) != x) = true := by rw [← hXX.out]; simpa using hXx
                        have HXx := Lib.hid hXx
                        clear hXx
                        go_wp2_with fail
                        go_still_tail 11, (by kernel_rfl)
                        change wpList _ _ _ _ _ wr.drew
                        go_wp2_with fail
                        go_roundw
                        case rel => exact ⟨v + 1, L.set v (y * (2 * x)), by omega, by go_num, (HOWv.out.set_ v _).drew, ⟨by rw [List.length_set]; exact hL.out.1, fun f hf => by
                          by_cases h : f = v
                          · subst h; rw [if_neg HXx.out, getS_set _ _ _ (by rw [hL.out.1]; exact hlt3), hnow.out]
                          · rw [getN_set _ _ _ _ (by rw [hL.out.1]; exact hlt3) h, hoth.out f h]; exact hL.out.2 f hf⟩, (HBv.out.setCell (Nat.le_refl _) _).drew, grown_trans (grown_trans HGv.out (grown_set _ _ _ _)) (grown_below (below_drewN (Below.refl _ _) 1) _)⟩
                        case measure => simp [intOf]; omega
                    · have hq1 : (s == 1) = false := by simpa using he
                      rw [if_neg he] at hnow
                      clear he
                      go_wp2
                      go_roundw
                      case rel => exact ⟨v + 1, L, by omega, by go_num, HOWv.out, ⟨hL.out.1, fun f hf => by
                        by_cases h : f = v
                        · subst h; rw [hnow.out, HLV.out, HYY.out]; split <;> rfl
                        · rw [hoth.out f h]; exact hL.out.2 f hf⟩, HBv.out, HGv.out⟩
                      case measure => simp [intOf]; omega
                  · obtain rfl : v = u := by omega
                    have hLe : L = winW said came v (q + 1) := HNX.out L hL.out.1 hL.out.2
                    rw [hLe] at HOWv
                    have R5 : Hid (Row wr w2.heap.size _ (toldL (winF said came v) (q + 1))) := Row.kept R4.out hgr (by rw [HZ2.out]; omega)
                    have hsz5 : w2.heap.size ≤ wr.heap.size := Nat.le_trans hsz4 hgr.size
                    clear hown hbel hgr
                    go_wp2
                    go_roundw
                    case rel => exact ⟨q + 1, by omega, by go_num, R5.out, HOWv.out, HBv.out, hsz5⟩
                    case measure => simp [intOf]; omega
        · obtain rfl : q = k := by omega
          obtain ⟨A4, c4, hv, hi4⟩ := hrow.form
          have hi4 := hi4 200 (by rw [toldL_len]; omega) (by omega)
          rw [toldL_len] at hv hi4
          subst hv
          have HI4 := Lib.hid hi4
          have HB4 := Lib.hid hbel
          clear hrow hi4 hown hbel
          go_wp2
          go_ret2
          exact ⟨_, _, _, rfl, HI4.out, HB4.out⟩
set_option maxRecDepth 100000 in
set_option maxHeartbeats 2000000 in
/-- dibberref05.Winnow -/
theorem f48_any (A B : Option Addr) (n : Int) (k c m d : Nat) (said : List (List Int)) (came : List Int) (w : World) (hs : IntsS w A k said) (ho : Ints w B m came) :
    Calls Try.prog 48 #[.int .i64 n, .slice A k c, .slice B m d] w (SlE w (tellN n said came) (recErr n said came)) := by
  by_cases h0 : recErr n said came = 0
  · obtain ⟨N, rfl, g1, g2, g3, g4, g5, g6⟩ := recErr_facts h0
    have hlen := hs.len
    have hmk : m = k := by have := ho.len; omega
    subst hmk
    have e1 : tellN (N : Int) said came = toldL (winF said came N) m := by unfold tellN; rw [if_pos h0, Int.toNat_natCast, hlen]
    rw [e1, h0]
    exact f48_good A B N m c d said came w hs ho h0 g1 g2 (by omega) (fun i hi => ⟨(g5 i (by omega)).1, fun j => bit_get (g5 i (by omega)).2 j, bit_get g6 i⟩)
  · have e1 : tellN n said came = [] := by unfold tellN; rw [if_neg h0]
    have k35 := Lib.hid (f35_any A B n k c m d said came w hs ho)
    rw [e1]
    generalize recErr n said came = er at *
    have hq : (er != 0) = true := by simpa using h0
    clear hs ho e1 h0
    go_enter Try.func48, Try.ntmps48
    go_wp2_with fail
    refine k35.out.mono ?_
    rintro e w1 ⟨rfl, rfl⟩
    go_wp2_with fail
    go_ret2
    exact ⟨_, _, _, rfl, Ints.nil _ _, Below.refl _ _⟩
end Go.Proofs.Ytfaenbaaadjbbaa
