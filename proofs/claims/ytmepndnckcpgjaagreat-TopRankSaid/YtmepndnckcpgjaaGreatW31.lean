/- Walk: share.Dearest. -/
import Derived.Test.YtmepndnckcpgjaaGreatW30
import Derived.Deep.DeepCutAuto
namespace Go.Proofs.YtmepndnckcpgjaaGreat
open Go.RowKit

/-- A new slice of ints, a number and an error came back, and nothing that was there has changed. -/
def SlInt (w : World) (xs : List Int) (s err : Int) (e : Ending) (w' : World) : Prop :=
  ∃ A' k c', e = .returned (.tuple #[.slice A' k c', .int .i64 s, .int .i64 err]) ∧ Ints w' A' k xs ∧ Below w.heap.size w w'
theorem dear_no {n : Int} {xs ws : List Int} {er : Int} (h : dearErr n xs ws = er) (h0 : er ≠ 0) {w w' : World} (hb : Below w.heap.size w w') : SlInt w (dearR n xs ws) (dearS n xs ws) (dearErr n xs ws) (.returned (.tuple #[.slice none 0 0, .int .i64 0, .int .i64 er])) w' := by
  have h1 : dearR n xs ws = [] := by unfold dearR; rw [h, if_neg h0]
  have h2 : dearS n xs ws = 0 := by unfold dearS; rw [h, if_neg h0]
  rw [h1, h2, h]
  exact ⟨none, 0, 0, rfl, Ints.nil _ _, hb⟩
theorem revL_succ (n k : Nat) : revL n k ++ [(n : Int) - 1 - (k : Int)] = revL n (k + 1) := by simp [revL, List.range_succ]
theorem revL_len (n k : Nat) : (revL n k).length = k := by simp [revL]

set_option maxRecDepth 100000 in
set_option maxHeartbeats 8000000 in
/-- share.Dearest -/
theorem f35_any (A B : Option Addr) (n : Int) (len c m d : Nat) (xs ws : List Int) (w : World) (hs : Ints w A len xs) (ho : Ints w B m ws) :
    Calls Tryz.prog 15 #[.int .i64 n, .slice A len c, .slice B m d] w (SlInt w (dearR n xs ws) (dearS n xs ws) (dearErr n xs ws)) := by
  have b0 := Lib.hid (below_alloc w (.cells #[.slice B m d] 23))
  have hs0 := Lib.hid (hs.below b0.out)
  have ho0 := Lib.hid (ho.below b0.out)
  have hc0 : (w.alloc (.cells #[.slice B m d] 23)).cell? ⟨w.heap.size, 0, none⟩ = some (.slice B m d) := cell_new w _ _ 0
  obtain ⟨W0, hW0⟩ : ∃ W0, W0 = w.alloc (.cells #[.slice B m d] 23) := ⟨_, rfl⟩
  have hsz0 : W0.heap.size = w.heap.size + 1 := by rw [hW0]; simp
  rw [← hW0] at b0 hs0 ho0 hc0
  have HW0 := Lib.hid hW0
  have HC0 := Lib.hid hc0
  have HSZ := Lib.hid hsz0
  clear hW0 hc0 hs hsz0
  by_cases h : asked n xs = 0
  · obtain ⟨hok, hT⟩ := asked_zero h
    obtain ⟨n', rfl, hn1, h6, hln, hbd, h0⟩ := costOk_facts hok
    have k44 := Lib.hid (f44_yes A n' len c xs W0 hs0.out h)
    have HL : Hid (len = 2 ^ n') := by rw [← hs0.out.len]; exact hln
    have HBD := Lib.hid hbd
    cases hw : wOk n' ws
    · have he : Hid (dearErr n' xs ws = 2) := by unfold dearErr; rw [if_pos h, Int.toNat_natCast, hw]; rfl
      have HWO := Lib.hid hw
      clear h hok hT hln h0 hbd hw ho
      go_enter Tryz.func15, Tryz.ntmps15
      go_wp2_with fail
      rw [← HW0.out]
      refine k44.out.mono ?_
      rintro e w1 ⟨p, rfl, hc, hI, hb, _⟩
      have B1 := Lib.hid (below_step b0.out hb)
      have O1 := Lib.hid (ho0.out.below hb)
      have hcx : w1.cell? ⟨w.heap.size, 0, none⟩ = some (.slice B m d) := (hb.cell (p := ⟨w.heap.size, 0, none⟩) (by simp only; have := HSZ.out; omega)).trans HC0.out
      have k65 := Lib.hid (f65_any p A B n' len c m d ws w1 hc O1.out)
      rw [HWO.out] at k65
      clear hb hc hI
      go_wp2_with fail
      refine k65.out.mono ?_
      rintro e w' ⟨rfl, rfl⟩
      go_wp2
      refine bodyPost_ret (results_tmp3 rfl _ _ _) rfl ?_
      exact dear_no he.out (by decide) B1.out
    · have he : Hid (dearErr n' xs ws = 0) := by unfold dearErr; rw [if_pos h, Int.toNat_natCast, hw]; rfl
      have heR : Hid (dearR n' xs ws = dearL n' xs ws) := by unfold dearR; rw [if_pos he.out, Int.toNat_natCast]; rfl
      have heS : Hid (dearS n' xs ws = dotTo (dearL n' xs ws) ws n') := by unfold dearS; rw [if_pos he.out, Int.toNat_natCast]; rfl
      obtain ⟨hwl, hwb⟩ := wOk_facts hw
      have hmn : m = n' := by rw [← ho.len]; exact hwl
      subst hmn
      have HWO := Lib.hid hw
      have HWB := Lib.hid hwb
      have hdl : Hid (dearL m xs ws = greedyL m xs ((ordR ws m m).map Int.toNat)) := rfl
      clear h hok hT hln h0 hbd hw ho hwb hwl
      go_enter Tryz.func15, Tryz.ntmps15
      go_wp2_with fail
      rw [← HW0.out]
      refine k44.out.mono ?_
      rintro e w1 ⟨p, rfl, hc, hI, hb, _⟩
      have B1 := Lib.hid (below_step b0.out hb)
      have O1 := Lib.hid (ho0.out.below hb)
      have I1 := Lib.hid hI
      have C1 := Lib.hid hc
      have hcx : w1.cell? ⟨w.heap.size, 0, none⟩ = some (.slice B m d) := (hb.cell (p := ⟨w.heap.size, 0, none⟩) (by simp only; have := HSZ.out; omega)).trans HC0.out
      have hlt1 : w.heap.size < w1.heap.size := by have := hb.size; have := HSZ.out; omega
      have k65 := Lib.hid (f65_any p A B m len c m d ws w1 hc O1.out)
      rw [HWO.out] at k65
      have HCX := Lib.hid hcx
      clear hb hc hI
      go_wp2_with fail
      refine k65.out.mono ?_
      rintro e w' ⟨rfl, rfl⟩
      clear hcx
      go_wp2_with fail
      go_loopw [11, 12] (fun sl i wz => ∃ j : Nat, j ≤ m ∧ i = .int .i64 ((m : Int) - 1 - (j : Int)) ∧ Row wz w1.heap.size sl (revL m j) ∧ Below w1.heap.size w1 wz) (fun _ i _ => (intOf i + 1).toNat)
      case atStart => exact ⟨0, by omega, by simp, Row.nil _ _, Below.refl _ _⟩
      case round => as_aux_lemma =>
        obtain ⟨j, hj, rfl, hrow, hbel⟩ := hrel
        have HRW := Lib.hid hrow
        have HBE := Lib.hid hbel
        have hsz := hbel.size
        clear hrow hbel
        by_cases hlt : j < m
        · have hgo : decide (0 ≤ (m : Int) - 1 - (j : Int)) = true := by simp; omega
          go_wp2_with (at_builtin; refine wpList_push rfl (.tmp 38) (.tmp 40) rfl w1.heap.size _ (revL m j) rfl (HRW.out.alloc _) wr.heap.size 1 ((m : Int) - 1 - (j : Int)) rfl ?hc ?hl ?hb ?hr)
          case hc => exact cell_new wr _ 3 0
          case hl => rw [revL_len]; omega
          case hb => simp; omega
          case hr =>
            intro v' w' hr' hg'
            rw [revL_succ] at hr'
            have HR2 := Lib.hid hr'
            have HB2 : Hid (Below w1.heap.size w1 w') := below_grown (HBE.out.alloc hsz _) hg' (by simp; omega) (HRW.out.alloc _) (Nat.le_refl _)
            clear hr' hg'
            go_wp2_with fail
            go_roundw
            case rel => exact ⟨j + 1, by omega, by go_num, HR2.out, HB2.out⟩
            case measure => simp [intOf]; omega
        · obtain rfl : j = m := by omega
          have hgo : decide (0 ≤ (j : Int) - 1 - (j : Int)) = false := by simp; omega
          obtain ⟨g, co, rfl, hgb⟩ := HRW.out.head (by rw [revL_len]; omega)
          have hrw := HRW.out
          rw [revL_len] at hrw
          rw [revL_len]
          have k67 := Lib.hid (f67_any w.heap.size j d g j co w1.heap.size B ws wr ((HBE.out.cell (p := ⟨w.heap.size, 0, none⟩) hlt1).trans HCX.out) hlt1
            (fun W hW => O1.out.below (HBE.out.trans hW)) hrw h6 hn1 rfl)
          clear hrw
          go_wp2_with fail
          refine k67.out.mono ?_
          rintro e w2 ⟨rfl, hr2, hb2⟩
          have hbel2 := HBE.out.trans hb2
          have C2 := Lib.hid (C1.out.below hbel2)
          have I2 := Lib.hid (I1.out.below hbel2)
          have O2 := Lib.hid (O1.out.below hbel2)
          have B2 := Lib.hid (below_step B1.out hbel2)
          have X2 : Hid (w2.cell? ⟨w.heap.size, 0, none⟩ = some (.slice B j d)) := (hbel2.cell (p := ⟨w.heap.size, 0, none⟩) hlt1).trans HCX.out
          obtain ⟨Ao, co2, hve, hio⟩ := hr2.form
          have hio := hio 6 (by rw [ordR_len]; exact h6) (by omega)
          rw [ordR_len] at hio hve
          injection hve with hv1 hv2 hv3
          subst hv1
          clear hv2 hv3
          have hin := ordR_in ws j j (Nat.le_refl _)
          have k49 := Lib.hid (f49_any p A _ j len c j co xs (ordR ws j j) w2 C2.out I2.out hio h6 HL.out (fun t => by have := HBD.out t; omega) (fun t ht => hin.at_ t (by rw [ordR_len]; exact ht)))
          rw [← hdl.out] at k49
          have hg2 : w.heap.size < w2.heap.size := by have := hbel2.size; omega
          clear hr2 hb2 hbel2 hio hin
          go_wp2_with fail
          refine k49.out.mono ?_
          rintro e w3 ⟨rfl, hown, hb3⟩
          have B3 := Lib.hid (below_step B2.out hb3)
          have O3 := Lib.hid (O2.out.below hb3)
          have hx3 : w3.cell? ⟨w.heap.size, 0, none⟩ = some (.slice B j d) := (hb3.cell (p := ⟨w.heap.size, 0, none⟩) hg2).trans X2.out
          have HOW := Lib.hid hown
          have hdlen : Hid ((dearL j xs ws).length = j) := greedyL_len _ _ _
          have hdin : Hid (∀ t, -2000000 ≤ (dearL j xs ws).getD t 0 ∧ (dearL j xs ws).getD t 0 ≤ 2000000) := fun t => greedyL_in j xs HBD.out _ t
          generalize dearL j xs ws = dl at *
          generalize w2.heap.size = g2 at *
          clear hown hb3 k49 hdl
          obtain ⟨bW, oW, rfl, hcw⟩ := O3.out.ad (by omega)
          have HCW := Lib.hid hcw
          clear hcw
          go_wp2_with fail
          go_loop [14, 15, 16, 50] (fun s _ _ i => ∃ t : Nat, t ≤ j ∧ i = .int .i64 t ∧ s = .int .i64 (dotTo dl ws t)) (fun _ _ _ i => j - (intOf i).toNat)
          case atStart => exact ⟨0, by omega, rfl, rfl⟩
          case round => as_aux_lemma =>
            obtain ⟨t, ht, rfl, rfl⟩ := hrel
            by_cases hlt : t < j
            · have d1 := HOW.out.cell t (by rw [hdlen.out]; exact hlt)
              have d2 := HCW.out t hlt
              have b1 := dotTo_in dl ws hdin.out HWB.out t
              have b2 := mul_in (hdin.out t) (HWB.out t)
              have hst : Hid (dotTo dl ws (t + 1) = dotTo dl ws t + dl.getD t 0 * ws.getD t 0) := rfl
              generalize dotTo dl ws t = s at *
              generalize dl.getD t 0 = x at *
              generalize ws.getD t 0 = y at *
              generalize hxy : x * y = xy at *
              have hxw : IntKind.i64.wrap (x * y) = xy := by rw [hxy]; exact IntWalk.i64_in _ (by omega)
              clear hxy
              go_wp2_with fail
              go_round
              case rel => exact ⟨t + 1, by omega, by go_num, by rw [hst.out]⟩
              case measure => simp [intOf]; omega
            · obtain rfl : t = j := by omega
              go_wp2_with fail
              refine bodyPost_ret (results_tmp3 rfl _ _ _) rfl ?_
              rw [he.out, heR.out, heS.out]
              exact ⟨_, _, _, rfl, HOW.out.ints' hdlen.out (by omega), B3.out⟩
  · have k44 := Lib.hid (f44_no A n len c xs W0 hs0.out h)
    have he : Hid (dearErr n xs ws = asked n xs) := by unfold dearErr; rw [if_neg h]; rfl
    have hq : (asked n xs != 0) = true := by simpa using h
    have H := Lib.hid h
    clear h ho
    go_enter Tryz.func15, Tryz.ntmps15
    go_wp2_with fail
    rw [← HW0.out]
    refine k44.out.mono ?_
    rintro e w1 ⟨rfl, hb⟩
    have B1 := Lib.hid (below_step b0.out hb)
    clear hb
    go_wp2
    refine bodyPost_ret (results_tmp3 rfl _ _ _) rfl ?_
    exact dear_no he.out H.out B1.out
end Go.Proofs.YtmepndnckcpgjaaGreat
