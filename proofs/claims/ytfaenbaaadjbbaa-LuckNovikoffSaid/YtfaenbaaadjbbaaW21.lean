/- Walks: weighing.foretell. -/
import Derived.Test.YtfaenbaaadjbbaaW20
import Derived.Deep.RegionHeld3
namespace Go.Proofs.Ytfaenbaaadjbbaa
open Go.RowKit
attribute [local go_sem ↓] Go.wp_at_zero Go.wp_at_succ

theorem after_new {W w1 : World} (hb : Below (W.alloc (.cells #[.bool false, .slice none 0 0] 133)).drew.heap.size (W.alloc (.cells #[.bool false, .slice none 0 0] 133)).drew w1) : Below W.heap.size W w1 ∧ IsBig w1 W.heap.size := by
  refine ⟨below_step ((below_alloc W _).drew) hb, ?_⟩
  exact IsBig.below (w := (W.alloc (.cells #[.bool false, .slice none 0 0] 133)).drew) (q := W.heap.size) (new_big W).is hb
theorem f106_two (w : World) : Calls Try.prog 106 #[.int .i64 2] w fun e w' => ∃ p, e = .returned (.pointer (some ⟨p, 0, none⟩)) ∧ w.heap.size ≤ p ∧ BigAt w' p 2 ∧ Below w.heap.size w w' := f106_any 2 w (by omega)
theorem drew_first {W w1 : World} (hb : Below W.drew.heap.size W.drew w1) : Below W.heap.size W w1 := below_step (a := W) (b := W.drew) (below_drewN (Below.refl _ _) 1) hb
theorem grown_new {W w1 w3 : World} {z : Nat} (h : Below W.heap.size W w1) (hg : w1.grownBy w3 (some z)) (hz : W.heap.size ≤ z) : Below W.heap.size W w3 := h.grown hg h.size (fun j hj => by injection hj with hj; omega)
set_option maxRecDepth 100000 in
set_option maxHeartbeats 3000000 in
/-- (*luck.weighing).foretell -/
theorem f103_any (p g n c : Nat) (A : Option Addr) (ss ws : List Int) (w : World) (hs : Ints w A n ss) (hp : w.cell? ⟨p, 0, none⟩ = some (.slice (some ⟨g, 0, none⟩) n n)) (ho : Own w g ws) (hl : ws.length = n) (hn0 : 0 < n) (hn : n ≤ 20)
    (hw : ∀ j, 0 ≤ ws.getD j 0 ∧ ws.getD j 0 ≤ 200) :
    Calls Try.prog 103 #[.pointer (some ⟨p, 0, none⟩), .slice A n c] w fun e w' => e = .returned (.int .i64 (weighs ss ws)) ∧ Below w.heap.size w w' := by
  have k104 := Lib.hid (f104_any (some ⟨g, 0, none⟩) n n ws w (ho.ints' hl (by omega)) hn0)
  have hmx : ∀ j, j < n → ws.getD j 0 ≤ maxL ws := fun j hj => maxTo_ge ws _ j (by rw [hl]; exact hj)
  have hM2 : maxL ws ≤ 200 := maxTo_le ws 200 (hw 0).2 _ fun j _ => (hw j).2
  have hM0 : 0 ≤ maxL ws := by have := hmx 0 hn0; have := (hw 0).1; omega
  have hfin : Hid (∀ x, x = diffTo ss ws (maxL ws) n → weighs ss ws = if 0 < x then 1 else 0) := fun x hx => by unfold weighs; rw [hx, hs.len]
  have hE : Hid (∀ j, (maxL ws - ws.getD j 0).toNat ≤ 200) := fun j => by have := (hw j).1; omega
  have hdf : Hid (∀ j, j ≤ n → (diffTo ss ws (maxL ws) j).natAbs < W32 ^ 4000) := fun j hj => Nat.lt_of_le_of_lt (diffTo_in ss ws (maxL ws) 200 hE.out j) (pow_small (by omega) (by omega))
  have hpw : Hid (∀ k : Nat, k ≤ 300 → (((2 ^ k : Nat) : Int)).natAbs < W32 ^ 4000) := fun k hk => by rw [Int.natAbs_natCast]; exact pow_lt_W (by omega)
  have HMX := Lib.hid hmx
  have HW := Lib.hid hw
  have HP := Lib.hid hp
  have HO := Lib.hid ho
  have HS := Lib.hid hs
  have HL := Lib.hid hl
  clear hs ho hl hw hmx
  go_enter Try.func103, Try.ntmps103
  go_wp2_with fail
  refine k104.out.mono ?_
  rintro e w' ⟨rfl, rfl⟩
  obtain ⟨M, hM⟩ : ∃ M, M = maxL ws := ⟨_, rfl⟩
  rw [← hM] at hM2 hM0 hfin HMX hE hdf
  rw [← hM]
  clear hM hp k104
  go_wp2
  go_loopw [7, 8, 9, 19] (fun _ _ _ i wr => ∃ k : Nat, k ≤ n ∧ i = .int .i64 (k : Int) ∧ BigAt wr w.heap.size (diffTo ss ws M k) ∧ Below w.heap.size w wr) (fun _ _ _ i _ => n - (intOf i).toNat)
  case atStart => exact ⟨0, by omega, rfl, new_big w, below_alloc _ _⟩
  case round => as_aux_lemma =>
    obtain ⟨k, hk, rfl, hbig, hbel⟩ := hrel
    have HBG := Lib.hid hbig
    have HBL := Lib.hid hbel
    have hsz := hbel.size
    have hdlt := hbig.lt
    by_cases hlt : k < n
    · obtain ⟨b, off, rfl, hc0⟩ := HS.out.at_ hlt
      have hc := (hbel.cell (lt_of_cell hc0)).trans hc0
      have hcp := (hbel.cell (lt_of_cell HP.out)).trans HP.out
      have hcg := (HO.out.below hbel HO.out.lt).cell k (by rw [HL.out]; exact hlt)
      have hx1 := HW.out k
      have hx2 := HMX.out k hlt
      have hst : Hid (diffTo ss ws M (k + 1) = if ss.getD k 0 = 1 then diffTo ss ws M k + ((2 ^ (M - ws.getD k 0).toNat : Nat) : Int) else diffTo ss ws M k - ((2 ^ (M - ws.getD k 0).toNat : Nat) : Int)) := rfl
      have hd1 := hdf.out k hk
      obtain ⟨E, hEd⟩ : ∃ E, E = (M - ws.getD k 0).toNat := ⟨_, rfl⟩
      rw [← hEd] at hst
      have eE : IntKind.i64.wrap (M - ws.getD k 0) = (E : Int) := by rw [IntWalk.i64_in _ (by omega)]; omega
      have hE3 : E ≤ 200 := by omega
      have hp2 := hpw.out E (by omega)
      have hki : (0 : Int) ≤ (k : Int) := by omega
      have hkn : (k : Int) < (n : Int) := by omega
      have R : Hid (∀ w' : World, Below wr.heap.size wr w' → w'.cell? ⟨p, 0, none⟩ = some (.slice (some ⟨g, 0, none⟩) n n) ∧ w'.cell? ⟨g, k, none⟩ = some (.int .i64 (ws.getD k 0))) := fun w' hb => ⟨(hb.cell (lt_of_cell hcp)).trans hcp, (hb.cell (lt_of_cell hcg)).trans hcg⟩
      generalize ws.getD k 0 = y at *
      generalize ss.getD k 0 = s at *
      have HD1 := Lib.hid hd1
      have HP2 := Lib.hid hp2
      clear hc0 hEd hbig hbel hd1 hp2
      by_cases h1 : s = 1
      · have hq : (s == 1) = true := by simpa using h1
        rw [if_pos h1] at hst
        clear h1
        go_wp2
        go_region_held3 (fun w' => w'.cell? ⟨p, 0, none⟩ = some (.slice (some ⟨g, 0, none⟩) n n) ∧ w'.cell? ⟨g, k, none⟩ = some (.int .i64 y))
          (first | go_keep | exact R.out _ HB1 | exact R.out _ (HB1.alloc HB1.size _) | exact R.out _ HB3)
          (first | (go_at_call 106; refine (f106_two _).mono ?_; rintro e w1 ⟨p2, rfl, hp2, hbig2, hb⟩; have HB1 : Below wr.heap.size wr w1 := (by first | exact (after_new hb).1 | exact drew_first hb)) | (go_at_call 105; first | ((with_reducible refine (f105_any wr.heap.size p2 E w1 (after_new hb).2 hbig2 (by omega)).mono ?_); rintro e w3 ⟨rfl, hbx, hgx⟩; have HB3 := grown_new HB1 hgx (Nat.le_refl _)) | ((with_reducible refine (f105_any w1.heap.size p2 E (w1.alloc (.cells #[.bool false, .slice none 0 0] 133)) (new_big w1).is (hbig2.below (below_alloc _ _)) (by omega)).mono ?_); rintro e w3 ⟨rfl, hbx, hgx⟩; have HB3 := grown_new (HB1.alloc HB1.size _) hgx HB1.size)))
        all_goals
          have HX := Lib.hid hbx
          have H3 := Lib.hid HB3
          have HD3 := Lib.hid (HBG.out.below HB3)
          have K := Lib.hid (f107_any w.heap.size w.heap.size _ _ _ w3 (HBG.out.below HB3).is (HBG.out.below HB3) hbx HD1.out HP2.out)
          clear hb HB1 hbx hgx HB3 hbig2
          go_wp2_with fail
          refine K.out.mono ?_
          rintro e w4 ⟨rfl, hb4, hg4⟩
          have HB4 : Hid (Below w.heap.size w w4) := (HBL.out.trans (H3.out.mono hsz)).grown hg4 (Nat.le_trans hsz H3.out.size) (fun j hj => by injection hj with hj; omega)
          have HA4 : Hid (BigAt w4 w.heap.size (diffTo ss ws M (k + 1))) := by rw [hst.out]; exact hb4
          clear hb4 hg4
          go_wp2
          go_roundw
          case rel => exact ⟨k + 1, by omega, by go_num, HA4.out, HB4.out⟩
          case measure => simp [intOf]; omega
      · have hq : (s == 1) = false := by simpa using h1
        rw [if_neg h1] at hst
        clear h1
        go_wp2
        go_region_held3 (fun w' => w'.cell? ⟨p, 0, none⟩ = some (.slice (some ⟨g, 0, none⟩) n n) ∧ w'.cell? ⟨g, k, none⟩ = some (.int .i64 y))
          (first | go_keep | exact R.out _ HB1 | exact R.out _ (HB1.alloc HB1.size _) | exact R.out _ HB3)
          (first | (go_at_call 106; refine (f106_two _).mono ?_; rintro e w1 ⟨p2, rfl, hp2, hbig2, hb⟩; have HB1 : Below wr.heap.size wr w1 := (by first | exact (after_new hb).1 | exact drew_first hb)) | (go_at_call 105; first | ((with_reducible refine (f105_any wr.heap.size p2 E w1 (after_new hb).2 hbig2 (by omega)).mono ?_); rintro e w3 ⟨rfl, hbx, hgx⟩; have HB3 := grown_new HB1 hgx (Nat.le_refl _)) | ((with_reducible refine (f105_any w1.heap.size p2 E (w1.alloc (.cells #[.bool false, .slice none 0 0] 133)) (new_big w1).is (hbig2.below (below_alloc _ _)) (by omega)).mono ?_); rintro e w3 ⟨rfl, hbx, hgx⟩; have HB3 := grown_new (HB1.alloc HB1.size _) hgx HB1.size)))
        all_goals
          have HX := Lib.hid hbx
          have H3 := Lib.hid HB3
          have HD3 := Lib.hid (HBG.out.below HB3)
          have K := Lib.hid (f108_any w.heap.size w.heap.size _ _ _ w3 (HBG.out.below HB3).is (HBG.out.below HB3) hbx HD1.out HP2.out)
          clear hb HB1 hbx hgx HB3 hbig2
          go_wp2_with fail
          refine K.out.mono ?_
          rintro e w4 ⟨rfl, hb4, hg4⟩
          have HB4 : Hid (Below w.heap.size w w4) := (HBL.out.trans (H3.out.mono hsz)).grown hg4 (Nat.le_trans hsz H3.out.size) (fun j hj => by injection hj with hj; omega)
          have HA4 : Hid (BigAt w4 w.heap.size (diffTo ss ws M (k + 1))) := by rw [hst.out]; exact hb4
          clear hb4 hg4
          go_wp2
          go_roundw
          case rel => exact ⟨k + 1, by omega, by go_num, HA4.out, HB4.out⟩
          case measure => simp [intOf]; omega
    · obtain rfl : k = n := by omega
      have hf := Lib.hid (hfin.out _ rfl)
      have K := Lib.hid (f109_any w.heap.size _ wr hbig)
      generalize diffTo ss ws M k = x at *
      clear hbig hbel
      by_cases h0 : 0 < x
      · have hc3 : 0 < cmp3 x 0 := by unfold cmp3; rw [if_neg (by omega), if_pos h0]; omega
        have hf2 : Hid (weighs ss ws = 1) := by rw [hf.out, if_pos h0]; rfl
        generalize cmp3 x 0 = cm at *
        clear h0
        go_wp2_with fail
        refine K.out.mono ?_
        rintro e w4 ⟨rfl, rfl⟩
        go_wp2
        go_ret
        exact ⟨ret_int hf2.out.symm, HBL.out⟩
      · have hc3 : cmp3 x 0 ≤ 0 := by unfold cmp3; split <;> (try split) <;> omega
        have hf2 : Hid (weighs ss ws = 0) := by rw [hf.out, if_neg h0]; rfl
        generalize cmp3 x 0 = cm at *
        clear h0
        go_wp2_with fail
        refine K.out.mono ?_
        rintro e w4 ⟨rfl, rfl⟩
        go_wp2
        go_ret
        exact ⟨ret_int hf2.out.symm, HBL.out⟩
end Go.Proofs.Ytfaenbaaadjbbaa
