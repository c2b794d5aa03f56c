/- Walks: the specification's Dearest; ShareWeights. -/
import Derived.Test.YtpehhbiodmgjeaaW31
import Derived.Test.YtpehhbiodmgjeaaW23
namespace Go.Proofs.Ytpehhbiodmgjeaa
open Go.RowKit

set_option maxRecDepth 100000 in
set_option maxHeartbeats 8000000 in
/-- dibberref08.Dearest -/
theorem f36_any (A B : Option Addr) (n : Int) (len c m d : Nat) (xs ws : List Int) (w : World) (hs : Ints w A len xs) (ho : Ints w B m ws) :
    Calls Try.prog 36 #[.int .i64 n, .slice A len c, .slice B m d] w (SlInt w (dearR n xs ws) (dearS n xs ws) (dearErr n xs ws)) := by
  have k46 := Lib.hid (f46_any A n len c xs w hs)
  by_cases h : asked n xs = 0
  · obtain ⟨hok, hT⟩ := asked_zero h
    obtain ⟨n', rfl, hn1, h6, hln, hbd, h0⟩ := costOk_facts hok
    rw [h] at k46
    have HS := Lib.hid hs
    have HO := Lib.hid ho
    have HL : Hid (len = 2 ^ n') := by rw [← hs.len]; exact hln
    have HBD := Lib.hid hbd
    have k37 : Hid (∀ W, Ints W B m ws → Calls Try.prog 37 #[.int .i64 (n' : Int), .slice B m d] W fun e w' => e = .returned (.bool (wOk n' ws)) ∧ W = w') := fun W hW => f37_any B n' m d ws W hW h6
    cases hw : wOk n' ws
    · have he : Hid (dearErr n' xs ws = 2) := by unfold dearErr; rw [if_pos h, Int.toNat_natCast, hw]; rfl
      rw [hw] at k37
      clear h hok hT hln h0 hbd hw hs ho
      go_enter Try.func36, Try.ntmps36
      go_wp2_with fail
      refine k46.out.mono ?_
      rintro e w1 ⟨rfl, hd⟩
      have B1 := Lib.hid (below_draw hd)
      clear hd
      go_wp2_with fail
      refine (k37.out _ (HO.out.below B1.out)).mono ?_
      rintro e w' ⟨rfl, rfl⟩
      go_wp2
      refine bodyPost_ret (results_tmp3 rfl _ _ _) rfl ?_
      exact dear_no he.out (by decide) B1.out
    · have he : Hid (dearErr n' xs ws = 0) := by unfold dearErr; rw [if_pos h, Int.toNat_natCast, hw]; rfl
      have heR : Hid (dearR n' xs ws = dearL n' xs ws) := by unfold dearR; rw [if_pos he.out, Int.toNat_natCast]; rfl
      have heS : Hid (dearS n' xs ws = dotTo (dearL n' xs ws) ws n') := by unfold dearS; rw [if_pos he.out, Int.toNat_natCast]; rfl
      obtain ⟨hwl, hwb⟩ := wOk_facts hw
      have hmn : m = n' := by rw [← ho.len]; exact hwl
      subst hmn
      rw [hw] at k37
      have HWB := Lib.hid hwb
      have hdl : Hid (dearL m xs ws = greedyL m xs ((ordR ws m m).map Int.toNat)) := rfl
      obtain ⟨bW, oW, rfl, _⟩ := ho.ad (by omega)
      clear h hok hT hln h0 hbd hw hs ho hwb hwl
      go_enter Try.func36, Try.ntmps36
      go_wp2_with fail
      refine k46.out.mono ?_
      rintro e w1 ⟨rfl, hd⟩
      have B1 := Lib.hid (below_draw hd)
      have O1 := Lib.hid (HO.out.below B1.out)
      have I1 := Lib.hid (HS.out.below B1.out)
      clear hd
      go_wp2_with fail
      refine (k37.out _ O1.out).mono ?_
      rintro e w' ⟨rfl, rfl⟩
      go_wp2_with fail
      go_loopw [10, 11, 12, 13] (fun sl i _ _ wz => ∃ j : Nat, j ≤ m ∧ i = .int .i64 ((m : Int) - 1 - (j : Int)) ∧ Row wz w1.heap.size sl (ordR ws m j) ∧ Below w1.heap.size w1 wz) (fun _ i _ _ _ => (intOf i + 1).toNat)
      case atStart => exact ⟨0, by omega, by simp, Row.nil _ _, Below.refl _ _⟩
      case round => as_aux_lemma =>
        obtain ⟨t, ht, rfl, hrow, hbel⟩ := hrel
        have HRW := Lib.hid hrow
        have HBE := Lib.hid hbel
        have hsz := hbel.size
        clear hrow hbel
        by_cases hlt : t < m
        · have hgo : decide (0 ≤ (m : Int) - 1 - (t : Int)) = true := by simp; omega
          go_wp2_with (at_builtin; refine wpList_push rfl (.tmp 33) (.tmp 35) rfl w1.heap.size _ (ordR ws m t) rfl (HRW.out.alloc _) wr.heap.size 1 ((m : Int) - 1 - (t : Int)) rfl ?hc ?hl ?hb ?hr)
          case hc => exact cell_new wr _ 3 0
          case hl => rw [ordR_len]; omega
          case hb => simp; omega
          case hr =>
            intro v' w2 hr' hg'
            have HB2 : Hid (Below w1.heap.size w1 w2) := below_grown (HBE.out.alloc hsz _) hg' (by simp; omega) (HRW.out.alloc _) (Nat.le_refl _)
            have hl1 : (ordR ws m t ++ [(m : Int) - 1 - (t : Int)]).length = t + 1 := by rw [List.length_append, ordR_len]; rfl
            obtain ⟨g, co, rfl, hgb⟩ := hr'.head (by rw [hl1]; omega)
            rw [hl1] at hr'
            rw [hl1]
            have hnx : Hid (sift ws (ordR ws m t ++ [(m : Int) - 1 - (t : Int)]) t = ordR ws m (t + 1)) := rfl
            have hin : InR m (ordR ws m t ++ [(m : Int) - 1 - (t : Int)]) := fun x hx => by
              rw [List.mem_append] at hx
              rcases hx with hx | hx
              · exact ordR_in ws m t (by omega) x hx
              · rw [List.mem_singleton] at hx; omega
            generalize ordR ws m t ++ [(m : Int) - 1 - (t : Int)] = L at *
            have HR2 := Lib.hid hr'
            have HI := Lib.hid hin
            have HL1 := Lib.hid hl1
            clear hr' hg' hin hl1
            go_wp2_with fail
            go_loopw [12, 13] (fun i _ wz => ∃ (j : Nat) (l : List Int), j ≤ t ∧ i = .int .i64 j ∧ sift ws l j = ordR ws m (t + 1) ∧ l.length = t + 1 ∧ InR m l ∧ Row wz w1.heap.size (.slice (some ⟨g, 0, none⟩) (t + 1) co) l ∧ Below w1.heap.size w1 wz) (fun i _ _ => (intOf i).toNat)
            case atStart => exact ⟨t, L, by omega, by go_num, hnx.out, HL1.out, HI.out, HR2.out, HB2.out⟩
            case round => as_aux_lemma =>
              obtain ⟨j, l, hj, rfl, hsift, hlen, hin, hrow, hbel⟩ := hrel
              have HW2 := Lib.hid hrow
              have HB3 := Lib.hid hbel
              have HS2 := Lib.hid hsift
              by_cases hj0 : 0 < j
              · obtain ⟨s, rfl⟩ : ∃ s, j = s + 1 := ⟨j - 1, by omega⟩
                have hst : Hid (sift ws l (s + 1) = if wv ws (l.getD s 0) < wv ws (l.getD (s + 1) 0) then sift ws (swp l s) s else l) := rfl
                have r1 := hin.at_ s (by omega)
                have r2 := hin.at_ (s + 1) (by omega)
                obtain ⟨c1, z1, _⟩ := hrow.cell s (by omega)
                obtain ⟨c2, z2, _⟩ := hrow.cell (s + 1) (by omega)
                have hsw : Hid (swp l s = (l.set (s + 1) (l.getD s 0)).set s (l.getD (s + 1) 0)) := rfl
                have hin2 : Hid (InR m (swp l s)) := hin.swp s (by omega)
                have hlen2 : Hid ((swp l s).length = t + 1) := by rw [swp_len]; exact hlen
                have hjg : decide ((0 : Int) < (s : Int) + 1) = true := decide_eq_true (by omega)
                have htw : IntKind.i64.wrap ((s : Int) + 1 - 1) = (s : Int) := by rw [show (s : Int) + 1 - 1 = (s : Int) by omega]; exact IntWalk.i64_in _ (by omega)
                have htn : (s : Int) + 1 - 1 = (s : Int) := by omega
                obtain ⟨a, ha⟩ := nat_of (l.getD s 0) r1.1
                obtain ⟨b, hb⟩ := nat_of (l.getD (s + 1) 0) r2.1
                rw [ha] at c1 hst hsw r1
                rw [hb] at c2 hst hsw r2
                obtain ⟨_, _, e, hcw⟩ := (O1.out.below hbel).ad (by omega)
                cases e
                have d1 := hcw a (by omega)
                have d2 := hcw b (by omega)
                have ea : wv ws (a : Int) = ws.getD a 0 := rfl
                have eb : wv ws (b : Int) = ws.getD b 0 := rfl
                rw [ea, eb] at hst
                generalize ws.getD a 0 = va at *
                generalize ws.getD b 0 = vb at *
                clear ha hb ea eb hcw
                by_cases hw : va < vb
                · have hst2 : Hid (sift ws (swp l s) s = ordR ws m (t + 1)) := by rw [← HS2.out, hst.out, if_pos hw]; rfl
                  clear hst hrow hbel hin hsift HS2
                  go_wp2
                  go_quiet (fail)
                  go_wp2
                  exact ⟨⟨s, swp l s, by omega, rfl, hst2.out, hlen2.out, hin2.out, by rw [hsw.out]; exact ((HW2.out.drewN _).set_ (s + 1) a).set_ s b, ((below_drewN HB3.out _).setCell hgb _).setCell hgb _⟩, by simp [intOf]⟩
                · have hst2 : Hid (l = ordR ws m (t + 1)) := by rw [← HS2.out, hst.out, if_neg hw]; rfl
                  clear hst hrow hbel hin hsift HS2
                  go_wp2
                  go_quiet (fail)
                  go_wp2
                  exact ⟨⟨t + 1, by omega, by go_num, by rw [← hst2.out]; exact HW2.out.drewN _, below_drewN HB3.out _⟩, by simp [intOf]; omega⟩
              · obtain rfl : j = 0 := by omega
                have hst2 : Hid (l = ordR ws m (t + 1)) := by rw [← HS2.out]; rfl
                clear hrow hbel hin hsift HS2
                go_wp2
                go_quiet (fail)
                go_wp2
                exact ⟨⟨t + 1, by omega, by go_num, by rw [← hst2.out]; exact HW2.out.drewN _, below_drewN HB3.out _⟩, by simp [intOf]; omega⟩
        · obtain rfl : t = m := by omega
          have hgo : decide (0 ≤ (t : Int) - 1 - (t : Int)) = false := by simp; omega
          obtain ⟨Ao, co, rfl, hio⟩ := HRW.out.form
          have hio := hio 6 (by rw [ordR_len]; exact h6) (by omega)
          rw [ordR_len] at hio
          rw [ordR_len]
          have hin := ordR_in ws t t (Nat.le_refl _)
          have k70 := Lib.hid (f70_any A Ao t len c t co xs (ordR ws t t) wr (I1.out.below HBE.out) hio h6 HL.out HBD.out (fun j hj => hin.at_ j (by rw [ordR_len]; exact hj)) (ordR_nodup ws t h6))
          rw [← hdl.out] at k70
          have B2 := Lib.hid (below_step B1.out HBE.out)
          have O2 := Lib.hid (O1.out.below HBE.out)
          clear hio hin
          go_wp2_with fail
          refine k70.out.mono ?_
          rintro e w3 ⟨rfl, hown, hb3⟩
          have B3 := Lib.hid (below_step B2.out hb3)
          have O3 := Lib.hid (O2.out.below hb3)
          have HOW := Lib.hid hown
          have hdlen : Hid ((dearL t xs ws).length = t) := greedyL_len _ _ _
          have hdin : Hid (∀ j, -2000000 ≤ (dearL t xs ws).getD j 0 ∧ (dearL t xs ws).getD j 0 ≤ 2000000) := fun j => greedyL_in t xs HBD.out _ j
          generalize dearL t xs ws = dl at *
          clear hown hb3 k70 hdl
          obtain ⟨_, _, e, hcw⟩ := O3.out.ad (by omega)
          cases e
          have HCW := Lib.hid hcw
          clear hcw
          go_wp2_with fail
          obtain ⟨wq, rfl⟩ : ∃ wq : World, wq = wr := ⟨_, rfl⟩
          generalize wq.heap.size = g2 at *
          go_loopw [15, 16] (fun s i wz => ∃ j : Nat, j ≤ t ∧ i = .int .i64 j ∧ s = .int .i64 (dotTo dl ws j) ∧ ∃ q, wz = w3.drewN q) (fun _ i _ => t - (intOf i).toNat)
          case atStart => exact ⟨0, by omega, rfl, rfl, 0, rfl⟩
          case round => as_aux_lemma =>
            obtain ⟨j, hj, rfl, rfl, q, rfl⟩ := hrel
            by_cases hlt : j < t
            · have d1 := HOW.out.cell j (by rw [hdlen.out]; exact hlt)
              have d2 := HCW.out j hlt
              have b1 := dotTo_in dl ws hdin.out HWB.out j
              have b2 := mul_in (hdin.out j) (HWB.out j)
              have hst : Hid (dotTo dl ws (j + 1) = dotTo dl ws j + dl.getD j 0 * ws.getD j 0) := rfl
              generalize dotTo dl ws j = s at *
              generalize dl.getD j 0 = x at *
              generalize ws.getD j 0 = y at *
              rw [Int.mul_comm] at b2 hst
              generalize hxy : y * x = xy at *
              have hxw : IntKind.i64.wrap (y * x) = xy := by rw [hxy]; exact IntWalk.i64_in _ (by omega)
              have hxs : IntKind.i64.wrap (s + xy) = s + xy := IntWalk.i64_in _ (by omega)
              go_wp2_with fail
              go_quiet (fail)
              go_wp2
              go_roundw
              case rel => exact ⟨j + 1, by omega, by go_num, by rw [hst.out], by first | exact ⟨_, rfl⟩ | exact ⟨_, World.drewN_drewN _ _ _⟩⟩
              case measure => simp [intOf]; omega
            · obtain rfl : j = t := by omega
              go_wp2_with fail
              refine bodyPost_ret (results_tmp3 rfl _ _ _) rfl ?_
              rw [he.out, heR.out, heS.out]
              exact ⟨_, _, _, rfl, HOW.out.ints' hdlen.out (by omega), below_drewN B3.out q⟩
  · have he : Hid (dearErr n xs ws = asked n xs) := by unfold dearErr; rw [if_neg h]; rfl
    have hq : (asked n xs != 0) = true := by simpa using h
    have H := Lib.hid h
    clear h ho
    go_enter Try.func36, Try.ntmps36
    go_wp2_with fail
    refine k46.out.mono ?_
    rintro e w1 ⟨rfl, hd⟩
    have B1 := Lib.hid (below_draw hd)
    clear hd
    go_wp2
    refine bodyPost_ret (results_tmp3 rfl _ _ _) rfl ?_
    exact dear_no he.out H.out B1.out
end Go.Proofs.Ytpehhbiodmgjeaa
