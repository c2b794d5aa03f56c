/- Walks: the specification's Weighing. -/
import Derived.Test.YtfaenbaaadjbbaaW39
namespace Go.Proofs.Ytfaenbaaadjbbaa
open Go.RowKit

theorem two_split (a b : Nat) (h : b ≤ a) : 2 ^ a = 2 ^ b * 2 ^ (a - b) := by rw [← Nat.pow_add]; congr 1; omega
/-- What is weighed with the greatest power taken out. -/
theorem diff_half {ss ws : List Int} {M : Nat} (hM : M ≤ 200) (hw : ∀ j, 0 ≤ ws.getD j 0) (k : Nat) (hb : ∀ j, j < k → (ss.getD j 0 = 0 ∨ ss.getD j 0 = 1) ∧ ws.getD j 0 ≤ M) :
    halfSum ss ws 1 k - halfSum ss ws 0 k = diffTo ss ws M k * ((2 ^ (200 - M) : Nat) : Int) := by
  induction k with
  | zero => simp [halfSum, diffTo]
  | succ k ih =>
    have ih := ih fun j hj => hb j (by omega)
    obtain ⟨h1, h2⟩ := hb k (by omega)
    obtain ⟨W, hW⟩ := nat_of _ (hw k)
    simp only [halfSum, diffTo]
    rw [hW] at h2 ⊢
    have e : ((M : Int) - (W : Int)).toNat = M - W := by omega
    have e2 : 2 ^ (200 - W) = 2 ^ (200 - M) * 2 ^ (M - W) := by
      rw [two_split (200 - W) (200 - M) (by omega)]; congr 2; omega
    rw [e, Int.toNat_natCast, e2, Int.natCast_mul]
    generalize ((2 ^ (200 - M) : Nat) : Int) = P at *
    generalize ((2 ^ (M - W) : Nat) : Int) = Q at *
    rcases h1 with h1 | h1
    · rw [h1, if_neg (by decide), if_pos rfl, if_neg (by decide), Int.sub_mul, ← ih, Int.mul_comm Q P]; omega
    · rw [h1, if_pos rfl, if_neg (by decide), if_pos rfl, Int.add_mul, ← ih, Int.mul_comm Q P]; omega
/-- The totals tell what the weights tell. -/
theorem weighs_half {n : Nat} {ss ws : List Int} (hs : ss.length = n) (hn : 0 < n) (hl : ws.length = n) (hb : ∀ j, j < n → ss.getD j 0 = 0 ∨ ss.getD j 0 = 1) (hw : ∀ j, 0 ≤ ws.getD j 0 ∧ ws.getD j 0 ≤ 200) :
    weighs ss ws = if halfSum ss ws 0 n < halfSum ss ws 1 n then 1 else 0 := by
  have h1 : maxL ws ≤ 200 := maxTo_le ws 200 (hw 0).2 _ fun j _ => (hw j).2
  have h0 : 0 ≤ maxL ws := Int.le_trans (hw 0).1 (maxTo_ge ws _ 0 (by omega))
  obtain ⟨M, hM⟩ := nat_of _ h0
  have hd := diff_half (ss := ss) (ws := ws) (M := M) (by omega) (fun j => (hw j).1) n fun j hj => ⟨hb j hj, by rw [← hM]; exact maxTo_ge ws _ j (by omega)⟩
  unfold weighs
  rw [hs, hM]
  have hp : (0 : Int) < ((2 ^ (200 - M) : Nat) : Int) := by
    have : 0 < 2 ^ (200 - M) := Nat.pow_pos (by omega)
    omega
  generalize ((2 ^ (200 - M) : Nat) : Int) = P at *
  generalize diffTo ss ws M n = D at *
  by_cases h : 0 < D
  · have := Int.mul_pos h hp
    rw [if_pos h, if_pos (by omega)]
  · have := Int.mul_nonpos_of_nonpos_of_nonneg (by omega : D ≤ 0) (Int.le_of_lt hp)
    rw [if_neg h, if_neg (by omega)]
theorem wrL_next {said : List (List Int)} {came : List Int} {n i : Nat} {ys : List Int} (h2 : ys.length = n) (h3 : ∀ j, j < n → ys.getD j 0 = (wrL said came n i).getD j 0 + if (said.getD i []).getD j 0 = came.getD i 0 then 0 else 1) : ys = wrL said came n (i + 1) := by
  apply List.ext_getElem (by rw [h2, wrL_len])
  intro j hj1 hj2
  have hj : j < n := by omega
  have e1 := h3 j hj
  rw [wrL_get hj] at e1
  have e2 := wrL_get (said := said) (came := came) (i := i + 1) hj
  have e3 : (wr said came j (i + 1) : Int) = (wr said came j i : Int) + if (said.getD i []).getD j 0 = came.getD i 0 then 0 else 1 := by
    simp only [wr]; split <;> simp
  rw [e3, ← e1] at e2
  simpa [List.getD_eq_getElem?_getD, hj1, hj2] using e2.symm
set_option maxRecDepth 100000 in
set_option maxHeartbeats 8000000 in
theorem f32_good (A B : Option Addr) (n k c d : Nat) (said : List (List Int)) (came : List Int) (w : World) (hs : IntsS w A k said) (ho : Ints w B k came) (h0 : recErr n said came = 0) (hn1 : 1 ≤ n) (hn : n ≤ 20) (hk : k ≤ 200)
    (hrow : ∀ i, i < k → (said.getD i []).length = n ∧ ∀ j, j < n → (said.getD i []).getD j 0 = 0 ∨ (said.getD i []).getD j 0 = 1) :
    Calls Try.prog 32 #[.int .i64 (n : Int), .slice A k c, .slice B k d] w (SlSl w (toldL (weighF said came n) k) (wrL said came n k) 0) := by
  have k35 := Lib.hid (f35_any A B n k c k d said came w hs ho)
  rw [h0] at k35
  have HS := Lib.hid hs
  have HO := Lib.hid ho
  have HR := Lib.hid hrow
  have hmk := make_ints n (by omega) w
  obtain ⟨w2, hw2⟩ : ∃ w2, w2 = w.alloc (.cells ((List.replicate n (0 : Int)).map (Value.int .i64)).toArray 3) := ⟨_, rfl⟩
  rw [← hw2] at hmk
  have O2 : Hid (Own w2 w.heap.size (wrL said came n 0)) := by rw [hw2, wrL_zero]; exact Own.made w n
  have B2 : Hid (Below w.heap.size w w2) := by rw [hw2]; exact below_alloc _ _
  have hz2 : w2.heap.size = w.heap.size + 1 := by rw [hw2]; simp
  have HZ2 := Lib.hid hz2
  clear hs ho h0 hrow hw2 hz2
  go_enter Try.func32, Try.ntmps32
  go_wp2_with fail
  refine k35.out.mono ?_
  rintro e w1 ⟨rfl, rfl⟩
  go_wp2_with fail
  go_loopw [11, 12, 13, 14] (fun v i _ _ wr => ∃ q : Nat, q ≤ k ∧ i = .int .i64 (q : Int) ∧ Row wr w2.heap.size v (toldL (weighF said came n) q) ∧ Own wr w.heap.size (wrL said came n q) ∧ Below w.heap.size w wr ∧ w2.heap.size ≤ wr.heap.size) (fun _ i _ _ _ => k - (intOf i).toNat)
  case atStart => exact ⟨0, by omega, rfl, Row.nil _ _, O2.out, B2.out, Nat.le_refl _⟩
  case round => as_aux_lemma =>
    obtain ⟨q, hq, rfl, hrow, hown, hbel, hsz⟩ := hrel
    have HRW := Lib.hid hrow
    have HOW := Lib.hid hown
    have HB := Lib.hid hbel
    by_cases hlt : q < k
    · obtain ⟨b, off, rfl, D, e, hcr, hi⟩ := HS.out.at_ hlt
      obtain ⟨r1, r2⟩ := HR.out q hlt
      rw [r1] at hcr hi
      have hcr2 := (hbel.cell (lt_of_cell hcr)).trans hcr
      have hIs := hi.below hbel
      have hIw : Ints wr (some ⟨w.heap.size, 0, none⟩) n (wrL said came n q) := hown.ints' (wrL_len _ _ _ _) (by omega)
      have hwin := wrL_in said came n q (by omega)
      have K63 : Hid (∀ (W : World) (x : Int), Below wr.heap.size wr W → Calls Try.prog 63 #[.slice (some ⟨w.heap.size, 0, none⟩) n n, .slice D n e, .int .i64 x] W fun e w' => ∃ A' c', e = .returned (.slice A' 201 c') ∧ Tot w' A' (halfSum (said.getD q []) (wrL said came n q) x n) ∧ Below W.heap.size W w') :=
        fun W x hb => f63_any _ D n n e _ _ x W (hIw.below hb) (hIs.below hb) hn hwin
      have hwe : Hid (weighF said came n q = if halfSum (said.getD q []) (wrL said came n q) 0 n < halfSum (said.getD q []) (wrL said came n q) 1 n then 1 else 0) :=
        weighs_half r1 (by omega) (wrL_len _ _ _ _) r2 hwin
      have HI := Lib.hid hi
      have hcr0 := Lib.hid hcr
      obtain ⟨bb, hbb⟩ : ∃ bb : Bool, bb = decide (halfSum (said.getD q []) (wrL said came n q) 0 n < halfSum (said.getD q []) (wrL said came n q) 1 n) := ⟨_, rfl⟩
      have K62 : Hid (∀ (W : World) (A1 A2 : Option Addr) (c1 c2 : Nat), Tot W A1 (halfSum (said.getD q []) (wrL said came n q) 1 n) → Tot W A2 (halfSum (said.getD q []) (wrL said came n q) 0 n) → Calls Try.prog 62 #[.slice A1 201 c1, .slice A2 201 c2] W fun e w' => e = .returned (.bool bb) ∧ ∃ k, w' = W.drewN k) :=
        fun W A1 A2 c1 c2 h1 h2 => by rw [hbb]; exact f62_any A1 A2 c1 c2 _ _ W h1 h2
      have hwe2 : Hid (weighF said came n q = if bb = true then 1 else 0) := by rw [hwe.out, hbb]; unfold Hid; simp
      clear hbb hwe
      have RC : Hid (∀ W, Below wr.heap.size wr W → W.cell? ⟨b, off + q, none⟩ = some (.slice D n e)) := fun W hb => (hb.cell (lt_of_cell hcr2)).trans hcr2
      have HB0 : Below wr.heap.size wr wr.drew := (Below.refl _ _).drew
      have hq0 : (0 : Int) ≤ (q : Int) := by omega
      have hqk : (q : Int) < (k : Int) := by omega
      clear hrow hown hbel hi hcr hIs hIw hwin r1 r2
      go_wp2_with fail
      go_region_held3 (fun w' => w'.cell? ⟨b, off + q, none⟩ = some (.slice D n e))
        (first | go_keep | exact RC.out _ HBb | exact RC.out _ HBa)
        (first | (go_at_call 62; refine (K62.out _ _ _ _ _ (by first | exact hTb | exact hTa2) (by first | exact hTb | exact hTa2)).mono ?_; rintro e3 wc ⟨rfl, dd, rfl⟩) | (go_at_call 63; refine (K63.out wa _ HBa).mono ?_; rintro e2 wb ⟨A2, c2, rfl, hTb, hbb⟩; have HBb := below_step HBa hbb; have hTa2 := hTa.below hbb) | (go_at_call 63; refine (K63.out _ _ HB0).mono ?_; rintro e1 wa ⟨A1, c1, rfl, hTa, hba⟩; have HBa := below_step HB0 hba))
      have HBD : Hid (Below wr.heap.size wr (wb.drewN dd)) := below_drewN HBb dd
      clear hTa hTb hTa2 hba hbb HBa HBb HB0
      generalize wb.drewN dd = w5 at *
      have B5 : Hid (Below w.heap.size w w5) := HB.out.trans (HBD.out.mono HB.out.size)
      have R5 : Hid (Row w5 w2.heap.size u11 (toldL (weighF said came n) q)) := HRW.out.below HBD.out
      have O5 : Hid (Own w5 w.heap.size (wrL said came n q)) := HOW.out.below' HBD.out
      have hsz5 : w2.heap.size ≤ w5.heap.size := Nat.le_trans hsz HBD.out.size
      have hst := Lib.hid (toldL_succ (weighF said came n) q)
      have hll : Hid ((toldL (weighF said came n) q).length ≤ 1000000) := by rw [toldL_len]; unfold Hid; omega
      obtain ⟨xx, hxx⟩ : ∃ xx : Int, xx = if bb = true then 1 else 0 := ⟨_, rfl⟩
      have hwx : Hid (weighF said came n q = xx) := by rw [hxx]; exact hwe2.out
      have HXX := Lib.hid hxx
      clear hxx hwe2 K62 K63 RC HBD HRW HOW hcr2
      cases bb
      all_goals
        have hx3 := HXX.out
        simp only [Bool.false_eq_true, if_false, if_true] at hx3
        subst hx3
        clear HXX
        go_wp2_with (at_builtin; refine wpList_push rfl (.tmp 43) (.tmp 45) rfl w2.heap.size _ (toldL (weighF said came n) q) rfl (R5.out.alloc _) w5.heap.size 1 _ rfl (cell_new w5 _ 3 0) hll.out (by simp; omega) ?_; intro v2 w6 hr hg2)
        rw [← hwx.out, hst.out] at hr
        have B6 : Hid (Below w.heap.size w w6) := below_grown (B5.out.alloc B5.out.size _) hg2 (by have := B5.out.size; simp; omega) (R5.out.alloc _) (by rw [HZ2.out]; omega)
        have O6 : Hid (Own w6 w.heap.size (wrL said came n q)) := (hg2.block w.heap.size (by have := O5.out.lt; simp; omega) (fun e => by
          have := World.ownsRow.lt R5.out _ e.symm
          rw [HZ2.out] at this
          omega)).trans (O5.out.alloc _)
        have R6 := Lib.hid hr
        have hsz6 : w2.heap.size ≤ w6.heap.size := by have := hg2.size; simp at this; omega
        clear hr hg2 R5 O5 B5
        go_wp2_with fail
        go_loopw [14] (fun i wr => ∃ (t : Nat) (L : List Int), t ≤ n ∧ i = .int .i64 (t : Int) ∧ Own wr w.heap.size L ∧ Hid (L.length = n ∧ (∀ j, j < n → L.getD j 0 = upTo (wrL said came n q) (said.getD q []) (came.getD q 0) t j)) ∧ Row wr w2.heap.size v2 (toldL (weighF said came n) (q + 1)) ∧ Below w.heap.size w wr ∧ w2.heap.size ≤ wr.heap.size) (fun i _ => n - (intOf i).toNat)
        case atStart => exact ⟨0, _, by omega, rfl, O6.out, ⟨wrL_len _ _ _ _, fun j _ => (upTo_zero _ _ _ _).symm⟩, R6.out, B6.out, hsz6⟩
        case round => as_aux_lemma =>
          obtain ⟨t, L, ht, rfl, hown, hL, hrow, hbel, hszt⟩ := hrel
          have HW := Lib.hid hown
          have HRt := Lib.hid hrow
          have HBt := Lib.hid hbel
          by_cases hlt2 : t < n
          · obtain ⟨bD, oD, rfl, hc2⟩ := HI.out.at_ hlt2
            obtain ⟨bC, oC, rfl, hc3⟩ := HO.out.at_ hlt
            have hc1 := (hbel.cell (lt_of_cell hcr0.out)).trans hcr0.out
            have hc2 := (hbel.cell (lt_of_cell hc2)).trans hc2
            have hc3 := (hbel.cell (lt_of_cell hc3)).trans hc3
            have hco := hown.cell t (by rw [hL.out.1]; exact hlt2)
            have hfz := hown.frozen t
            have hLk : L.getD t 0 = (wrL said came n q).getD t 0 := by rw [hL.out.2 t hlt2, upTo_at]
            have hxk := wrL_in said came n q (by omega) t
            rw [hLk] at hco
            have hnx : Hid (upTo (wrL said came n q) (said.getD q []) (came.getD q 0) (t + 1) t = (wrL said came n q).getD t 0 + if (said.getD q []).getD t 0 = came.getD q 0 then 0 else 1) := upTo_all _ _ _ _ _ (by omega)
            have HLK := Lib.hid hLk
            generalize (wrL said came n q).getD t 0 = y at *
            generalize hs : (said.getD q []).getD t 0 = s at *
            generalize hx : came.getD q 0 = x at *
            have ht0 : (0 : Int) ≤ (t : Int) := by omega
            have htn : (t : Int) < (n : Int) := by omega
            have hy2 : y + 1 ≤ 100001 := by omega
            clear hown hrow hbel hLk hs hx
            by_cases he : s = x
            · have hq : (s != x) = false := by simpa using he
              rw [if_pos he] at hnx
              clear he
              go_wp2
              go_quiet (fail)
              go_wp2
              go_roundw
              case rel => exact ⟨t + 1, L, by omega, by go_num, HW.out.drewN _, ⟨hL.out.1, fun j hj => by
                by_cases hjk : j = t
                · subst hjk; rw [hnx.out, HLK.out]; omega
                · rw [upTo_other _ _ _ _ _ hjk]; exact hL.out.2 j hj⟩, HRt.out.drewN _, below_drewN HBt.out _, hszt⟩
              case measure => simp [intOf]; omega
            · have hq : (s != x) = true := by simpa using he
              rw [if_neg he] at hnx
              clear he
              go_wp2
              go_quiet (fail)
              go_wp2
              go_roundw
              case rel => exact ⟨t + 1, L.set t (y + 1), by omega, by go_num, (HW.out.drewN _).set_ t _, ⟨by rw [List.length_set]; exact hL.out.1, fun j hj => by
                by_cases hjk : j = t
                · subst hjk; rw [getS_set _ _ _ (by rw [hL.out.1]; exact hlt2), hnx.out]
                · rw [getN_set _ _ _ _ (by rw [hL.out.1]; exact hlt2) hjk, upTo_other _ _ _ _ _ hjk]; exact hL.out.2 j hj⟩, (HRt.out.drewN _).kept (grown_set _ _ _ _) (by rw [HZ2.out]; omega), (below_drewN HBt.out _).setCell (Nat.le_refl _) _, by simp; omega⟩
              case measure => simp [intOf]; omega
          · obtain rfl : t = n := by omega
            have hLe : L = wrL said came t (q + 1) := wrL_next hL.out.1 (fun j hj => by rw [hL.out.2 j hj, upTo_all _ _ _ _ _ hj])
            rw [hLe] at HW
            clear hown hrow hbel
            go_wp2
            go_roundw
            case rel => exact ⟨q + 1, by omega, by go_num, HRt.out, HW.out, HBt.out, hszt⟩
            case measure => simp [intOf]; omega
    · obtain rfl : q = k := by omega
      obtain ⟨A4, c4, hv, hi4⟩ := hrow.form
      have hi4 := hi4 200 (by rw [toldL_len]; omega) (by omega)
      rw [toldL_len] at hv hi4
      subst hv
      have HI4 := Lib.hid hi4
      have HT4 := Lib.hid (hown.ints' (wrL_len said came n q) (by omega))
      have HB4 := Lib.hid hbel
      clear hrow hi4 hown hbel
      go_wp2
      go_ret3
      exact ⟨_, _, _, _, _, _, rfl, HI4.out, HT4.out, HB4.out⟩
end Go.Proofs.Ytfaenbaaadjbbaa
