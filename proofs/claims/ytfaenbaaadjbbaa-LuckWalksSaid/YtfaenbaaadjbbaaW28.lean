/- Walk: LuckWalks. -/
import Derived.Test.YtfaenbaaadjbbaaW27
namespace Go.Proofs.Ytfaenbaaadjbbaa
open Go.RowKit

/-- The cells of a ratio that was stored. -/
theorem rat_cells {w W : World} {x y : Int} (hb : Below (w.alloc (.cells #[.int .i64 x, .int .i64 y] 26)).heap.size (w.alloc (.cells #[.int .i64 x, .int .i64 y] 26)) W) :
    W.cell? ⟨w.heap.size, 0, none⟩ = some (.int .i64 x) ∧ W.cell? ⟨w.heap.size, 1, none⟩ = some (.int .i64 y) :=
  ⟨(hb.cell (p := ⟨w.heap.size, 0, none⟩) (by simp)).trans (cell_new _ _ _ 0), (hb.cell (p := ⟨w.heap.size, 1, none⟩) (by simp)).trans (cell_new _ _ _ 1)⟩
set_option maxRecDepth 100000 in
set_option maxHeartbeats 4000000 in
theorem f4_no (k folk x : Int) (A : Option Addr) (n c : Nat) (said : List (List Int)) (w : World) (hs : Came3 w A n said) (hf : fewB (said.map List.length) 0 = true) (hok : saidOk k folk said = false) :
    Calls Try.prog 4 #[.int .i64 k, .int .i64 folk, .slice A n c, .int .u8 x] w fun e w' => e = .returned (.bool true) ∧ Below w.heap.size w w' := by
  have k15 := Lib.hid (f15_any A none c n 0 0 _ w hs.1.1 (by omega))
  rw [hf] at k15
  have hS := hs.1.ints hf
  have k17 := Lib.hid (f17_any A k folk n c said w hS)
  rw [ratErr_no hok] at k17
  have HS := Lib.hid hS
  have k19 := Lib.hid (fun W h => f19_any A k folk n c said W h)
  rw [hok] at k19
  clear hs hf hS hok
  go_enter Try.func4, Try.ntmps4
  go_wp2_with fail
  refine k15.out.mono ?_
  rintro e w' ⟨rfl, rfl⟩
  go_wp2_with fail
  refine k17.out.mono ?_
  rintro e w1 ⟨rfl, hb⟩
  have B1 := Lib.hid (below_step hb (below_alloc w1 (.cells #[.int .i64 0, .int .i64 0] 26)))
  have K19 := Lib.hid (k19.out _ (HS.out.below B1.out))
  clear hb
  go_wp2_with fail
  refine K19.out.mono ?_
  rintro e w2 ⟨rfl, rfl⟩
  go_wp2_with fail
  refine (f16_any _).mono ?_
  rintro e w6 ⟨rfl, hb6⟩
  have B6 := Lib.hid (below_step B1.out hb6)
  clear hb6
  go_wp2_with fail
  go_ret
  exact ⟨rfl, B6.out⟩
theorem bit_rem (s i : Nat) : ((s : Int) / 2 ^ i).tmod 2 = (bitN s i : Int) := by
  unfold bitN
  rw [Nat.testBit_eq_decide_div_mod_eq, cast_shr]
  generalize s / 2 ^ i = t
  rw [Int.tmod_eq_emod_of_nonneg (by omega)]
  by_cases h : t % 2 = 1 <;> simp [h] <;> omega
theorem bitN_le (s i : Nat) : bitN s i ≤ 1 := by unfold bitN; split <;> omega
theorem far_le (k m : Nat) (h : m ≤ k) : far k m ≤ k := by unfold far; split <;> omega
set_option maxRecDepth 100000 in
set_option maxHeartbeats 8000000 in
theorem f4_yes (k folk : Nat) (x : Int) (A : Option Addr) (c : Nat) (said : List (List Int)) (w : World) (hs : Came3 w A k said) (hf : fewB (said.map List.length) 0 = true) (hok : saidOk k folk said = true) (hx : 0 ≤ x ∧ x ≤ 255) :
    Calls Try.prog 4 #[.int .i64 (k : Int), .int .i64 (folk : Int), .slice A k c, .int .u8 x] w fun e w' => e = .returned (.bool true) ∧ Below w.heap.size w w' := by
  have k15 := Lib.hid (f15_any A none c k 0 0 _ w hs.1.1 (by omega))
  rw [hf] at k15
  have hS := hs.1.ints hf
  have k17 := Lib.hid (f17_any A k folk k c said w hS)
  rw [ratErr_yes hok] at k17
  have HS := Lib.hid hS
  have HC := Lib.hid hs.2
  have k19 := Lib.hid (fun W h => f19_any A k folk k c said W h)
  rw [hok] at k19
  obtain ⟨k', f', e1, e2, g1, g2, g3, g4, g5, g6, g7⟩ := saidOk_facts hok
  obtain rfl : k = k' := by omega
  obtain rfl : folk = f' := by omega
  obtain ⟨m0, hm0, hr1, hr2⟩ := u8_rem x folk hx (by omega)
  obtain ⟨m, hm⟩ : ∃ m, m = 1 + m0 := ⟨_, rfl⟩
  have hm1 : 1 ≤ m := by omega
  have hmf : m ≤ folk := by omega
  have hmm : IntKind.i64.wrap (1 + (m0 : Int)) = (m : Int) := by rw [IntWalk.i64_in _ (by omega)]; omega
  obtain ⟨q1, q2, q3, q4, q5, q6, q7, q8, q9, q10, q11, q12⟩ := walks_law hok hm1 hmf
  have hcut := Lib.hid (cut_ok hok hm1 hmf)
  have htwo := Lib.hid (two_ok hok)
  have HROW := Lib.hid g6
  have HB := Lib.hid g7
  have Q5 := Lib.hid q5
  have Q6 := Lib.hid q6
  have hless := Lib.hid (fun W => f20_any (regN k folk said) (regD k folk said) (regN k m (cutL said m k)) (regD k m (cutL said m k)) W (by omega))
  rw [decide_eq_false q4] at hless
  have hKY : k * regD k folk said ≤ 10240 := Nat.le_trans (Nat.mul_le_mul g2 q8) (by omega)
  have eKY : (k : Int) * (regD k folk said : Int) = ((k * regD k folk said : Nat) : Int) := by simp
  generalize regN k folk said = X at *
  generalize regD k folk said = Y at *
  generalize k * Y = KY at *
  have hmm2 : (1 : Int) + (m0 : Int) = (m : Int) := by omega
  have hx0 := hx.1
  have hx1 := hx.2
  obtain ⟨N, hN, hshl⟩ := shl_one k (by omega)
  have hN2 : N ≤ 1024 := by rw [hN]; exact pow10 k g2
  have HN := Lib.hid hN
  clear hs hf hS hok e1 e2 g5 g6 g7 q4 q5 q6 hm hx hN
  go_enter Try.func4, Try.ntmps4
  go_wp2_with fail
  refine k15.out.mono ?_
  rintro e w' ⟨rfl, rfl⟩
  go_wp2_with fail
  refine k17.out.mono ?_
  rintro e w1 ⟨rfl, hb⟩
  have B1 := Lib.hid (below_step hb (below_alloc w1 (.cells #[.int .i64 (X : Int), .int .i64 (Y : Int)] 26)))
  have K19 := Lib.hid (k19.out _ (HS.out.below B1.out))
  have hsz1 := hb.size
  clear hb
  go_wp2_with fail
  refine K19.out.mono ?_
  rintro e w2 ⟨rfl, rfl⟩
  obtain ⟨w2, hw2⟩ : ∃ w2, w2 = w1.alloc (.cells #[.int .i64 (X : Int), .int .i64 (Y : Int)] 26) := ⟨_, rfl⟩
  have p0 : w2.cell? ⟨w1.heap.size, 0, none⟩ = some (.int .i64 (X : Int)) := by rw [hw2]; exact cell_new _ _ _ _
  have p1 : w2.cell? ⟨w1.heap.size, 1, none⟩ = some (.int .i64 (Y : Int)) := by rw [hw2]; exact cell_new _ _ _ _
  rw [← hw2] at B1
  rw [← hw2]
  have HS2 := Lib.hid (HS.out.below B1.out)
  have P0 := Lib.hid p0
  have P1 := Lib.hid p1
  clear hw2 K19 k17 k15
  go_wp2_with fail
  go_loopw [12, 13, 14] (fun v u i wr => ∃ (q : Nat) (vs us : List Value), q ≤ k ∧ i = .int .i64 (q : Int) ∧ RowV wr w2.heap.size v vs ∧ RowV wr w2.heap.size u us ∧ Apart v u ∧ Below w2.heap.size w2 wr ∧
    Hid (vs.length = q ∧ us.length = q ∧ (∀ j, j < q → ∃ B c, vs[j]? = some (.slice B m c) ∧ Ints w2 B m ((said.getD j []).take m)) ∧ (∀ j, j < q → ∃ b, us[j]? = some (.slice (some ⟨b, 0, none⟩) 2 2) ∧ Own wr b [(said.getD j []).getD 0 0, 1 - (said.getD j []).getD 0 0])))
    (fun _ _ i _ => k - (intOf i).toNat)
  case atStart => exact ⟨0, [], [], by omega, rfl, RowV.nil _ _, RowV.nil _ _, Apart.nil _, Below.refl _ _, ⟨rfl, rfl, fun j hj => absurd hj (by omega), fun j hj => absurd hj (by omega)⟩⟩
  case round => as_aux_lemma =>
    obtain ⟨q, vs, us, hq, rfl, hv, hu, hap, hbel, hI⟩ := hrel
    have HV := Lib.hid hv
    have HU := Lib.hid hu
    have HAP := Lib.hid hap
    have HBL := Lib.hid hbel
    have hsz := hbel.size
    by_cases hlt : q < k
    · obtain ⟨b, off, hA, B, d, hcr, hi⟩ := HS.out.at_ hlt
      have hcap := HC.out b off hA q hlt _ _ _ hcr
      subst hA
      have hl := HROW.out q hlt
      rw [hl] at hcr hi hcap
      obtain ⟨bB, oB, rfl, hc0⟩ := hi.at_ (show 0 < folk by omega)
      have hb01 := HB.out q 0 hlt (by omega)
      have hcr2 := (B1.out.cell (lt_of_cell hcr)).trans hcr
      have hc02 := (B1.out.cell (lt_of_cell hc0)).trans hc0
      have hcr3 := (hbel.cell (lt_of_cell hcr2)).trans hcr2
      have hc03 := (hbel.cell (lt_of_cell hc02)).trans hc02
      have hrow : Hid (Ints w2 (some ⟨bB, oB, none⟩) m ((said.getD q []).take m)) := by
        have h1 := hi.below B1.out
        refine ⟨by rw [List.length_take]; omega, by omega, fun hp => ?_⟩
        obtain ⟨b', off', e', hx⟩ := h1.ad (by omega)
        exact ⟨b', off', e', fun j hj => by rw [hx j (by omega)]; simp [List.getD_eq_getElem?_getD, List.getElem?_take_of_lt hj]⟩
      have HI2 := Lib.hid hI
      have hvl := hI.out.1
      have hul := hI.out.2.1
      have ha0 : 0 ≤ (said.getD q []).getD 0 0 := by omega
      have ha1 : (said.getD q []).getD 0 0 ≤ 1 := by omega
      generalize ha : (said.getD q []).getD 0 0 = a at *
      have HA := Lib.hid ha
      have hw1 : IntKind.i64.wrap (1 - a) = 1 - a := IntWalk.i64_in _ (by omega)
      have hoB : oB + 0 = oB := by omega
      rw [hoB] at hc03 hc02
      clear hv hu hap hbel hcr hc0 hi ha hb01 hI hoB
      have hmd : m ≤ d := by omega
      have hqi : (0 : Int) ≤ (q : Int) := by omega
      have hqk : (q : Int) < (k : Int) := by omega
      have hfk : (0 : Int) < (folk : Int) := by omega
      have hfk2 : 0 < folk := by omega
      go_wp2_with (at_builtin; refine wpList_pushV rfl (.tmp 80) (.tmp 87) rfl w2.heap.size _ vs rfl (HV.out.alloc _) wr.heap.size 1 (some ⟨bB, oB, none⟩) m d rfl ?hc ?hl ?hb ?hr)
      case hc => exact cell_new wr _ 31 0
      case hl => rw [hvl]; omega
      case hb => simp; omega
      case hr =>
        intro vA wA hrA hgA hoA
        have HVA := Lib.hid hrA
        have HBA : Hid (Below w2.heap.size w2 wA) := below_grownV (HBL.out.alloc hsz _) hgA (by simp; omega) (HV.out.alloc _) (Nat.le_refl _)
        have HUA : Hid (RowV wA w2.heap.size _ us) := RowV.other (HU.out.alloc _) hgA HAP.out
        have HAPA : Hid (Apart vA _) := Apart.push HAP.out (HU.out.alloc (.cells #[.slice (some ⟨bB, oB, none⟩) m d] 31)) (by rw [size_alloc]; exact hoA)
        have hszA := HBA.out.size
        have HOA : Hid (∀ b xs, Own wr b xs → Own wA b xs) := fun b xs h => (h.alloc _).grown (HV.out.alloc _) hgA
        have hcrA := (HBA.out.cell (lt_of_cell hcr2)).trans hcr2
        have hc0A := (HBA.out.cell (lt_of_cell hc02)).trans hc02
        clear hrA hgA hoA hcr3 hc03
        have R1 : Hid (RowV (((wA.alloc (.cells #[.int .i64 a, .int .i64 (1 - a)] 3)).alloc (.cells #[.slice (some ⟨wA.heap.size, 0, none⟩) 2 2] 31)).drew) w2.heap.size _ us) := (HUA.out.alloc _).alloc _
        have R2 : Hid ((((wA.alloc (.cells #[.int .i64 a, .int .i64 (1 - a)] 3)).alloc (.cells #[.slice (some ⟨wA.heap.size, 0, none⟩) 2 2] 31)).drew).cell? ⟨wA.heap.size + 1, 0, none⟩ = some (.slice (some ⟨wA.heap.size, 0, none⟩) 2 2)) := by
          have := cell_new (wA.alloc (.cells #[.int .i64 a, .int .i64 (1 - a)] 3)) #[.slice (some ⟨wA.heap.size, 0, none⟩) 2 2] 31 0
          rw [size_alloc] at this
          exact this
        have R3 : Hid (us.length ≤ 1000000) := by rw [hul]; unfold Hid; omega
        have R4 : Hid (w2.heap.size ≤ (((wA.alloc (.cells #[.int .i64 a, .int .i64 (1 - a)] 3)).alloc (.cells #[.slice (some ⟨wA.heap.size, 0, none⟩) 2 2] 31)).drew).heap.size) := by unfold Hid; simp; omega
        have RB : Hid (Below w2.heap.size w2 (((wA.alloc (.cells #[.int .i64 a, .int .i64 (1 - a)] 3)).alloc (.cells #[.slice (some ⟨wA.heap.size, 0, none⟩) 2 2] 31)).drew)) := ((HBA.out.alloc hszA _).alloc (by simp; omega) _).drew
        have R5 : Hid (∀ w', (((wA.alloc (.cells #[.int .i64 a, .int .i64 (1 - a)] 3)).alloc (.cells #[.slice (some ⟨wA.heap.size, 0, none⟩) 2 2] 31)).drew).grownBy w' (Value.ownBlock _) → Below w2.heap.size w2 w') := fun w' hg => below_grownV RB.out hg R4.out R1.out (Nat.le_refl _)
        have R6 : Hid (∀ w', Below w2.heap.size w2 w' → w'.cell? ⟨b, off + q, none⟩ = some (.slice (some ⟨bB, oB, none⟩) folk d) ∧ w'.cell? ⟨bB, oB, none⟩ = some (.int .i64 a)) := fun w' hb => ⟨(hb.cell (lt_of_cell hcr2)).trans hcr2, (hb.cell (lt_of_cell hc02)).trans hc02⟩
        go_wp2_with fail
        go_region_held3 (fun w' => w'.cell? ⟨b, off + q, none⟩ = some (.slice (some ⟨bB, oB, none⟩) folk d) ∧ w'.cell? ⟨bB, oB, none⟩ = some (.int .i64 a))
          (first | go_keep | exact R6.out _ HBA.out | exact R6.out _ (HBA.out.alloc hszA _) | exact R6.out _ RB.out | exact R6.out _ (R5.out _ hg'))
          ((refine step_pushV (by rfl) _ _ (by rfl) w2.heap.size u13 us (by rfl) R1.out (wA.heap.size+1) 1 (some ⟨wA.heap.size,0,none⟩) 2 2 (by rfl) R2.out R3.out R4.out ?_; intro v' w' hr' hg' ho'))
        have F : Hid (Below w2.heap.size w2 w' ∧ RowV w' w2.heap.size vA (vs ++ [.slice (some ⟨bB, oB, none⟩) m d]) ∧ RowV w' w2.heap.size v' (us ++ [.slice (some ⟨wA.heap.size, 0, none⟩) 2 2]) ∧ Apart vA v') :=
          ⟨R5.out _ hg', RowV.other (((HVA.out.alloc _).alloc _).drew) hg' HAPA.out.symm, hr', (Apart.push HAPA.out.symm (((HVA.out.alloc _).alloc _).drew) ho').symm⟩
        have G : Hid (∀ b xs, Own (((wA.alloc (.cells #[.int .i64 a, .int .i64 (1 - a)] 3)).alloc (.cells #[.slice (some ⟨wA.heap.size, 0, none⟩) 2 2] 31)).drew) b xs → Own w' b xs) := fun b xs h => h.grown R1.out hg'
        clear hr' hg' ho'
        go_wp2
        go_roundw
        case rel =>
          obtain ⟨F1, F2, F3, F4⟩ := F.out
          obtain ⟨i1, i2, i3, i4⟩ := HI2.out
          refine ⟨q + 1, _, _, by omega, by go_num, F2, F3, F4, F1, ⟨by simp [i1], by simp [i2], fun j hj => ?_, fun j hj => ?_⟩⟩
          · rcases Nat.lt_or_ge j q with h | h
            · obtain ⟨B, e, h1, h2⟩ := i3 j h
              exact ⟨B, e, by rw [List.getElem?_append_left (by omega)]; exact h1, h2⟩
            · obtain rfl : j = q := by omega
              exact ⟨_, d, by rw [← i1]; simp, hrow.out⟩
          · rcases Nat.lt_or_ge j q with h | h
            · obtain ⟨b', h1, h2⟩ := i4 j h
              exact ⟨b', by rw [List.getElem?_append_left (by omega)]; exact h1, G.out _ _ (((HOA.out _ _ h2).alloc _).alloc _)⟩
            · obtain rfl : j = q := by omega
              refine ⟨wA.heap.size, by rw [← i2]; simp, ?_⟩
              rw [HA.out]
              exact G.out _ _ ((Own.lit wA [a, 1 - a]).alloc _)
        case measure => simp [intOf]; omega
    · obtain rfl : q = k := by omega
      obtain ⟨i1, i2, i3, i4⟩ := hI.out
      obtain ⟨A1, c1, rfl, hs1⟩ := hv.ints (xss := cutL said m q) (by rw [cutL_len]; exact i1) (by rw [cutL_len]; omega) (fun j hj => by
        rw [cutL_len] at hj
        obtain ⟨B, e, h1, h2⟩ := i3 j hj
        have hl := HROW.out j hj
        rw [cutL_get hj]
        have e1 : ((said.getD j []).take m).length = m := by rw [List.length_take]; omega
        rw [e1]
        exact ⟨B, e, h1, h2.below hbel⟩)
      obtain ⟨A2, c2, rfl, hs2⟩ := hu.ints (xss := twoL said q) (by rw [twoL_len]; exact i2) (by rw [twoL_len]; omega) (fun j hj => by
        rw [twoL_len] at hj
        obtain ⟨b, h1, h2⟩ := i4 j hj
        rw [twoL_get hj]
        exact ⟨_, 2, h1, h2.ints (by simp)⟩)
      rw [cutL_len] at hs1 ⊢
      rw [twoL_len] at hs2 ⊢
      have k1 := Lib.hid (f17_any A1 q m q c1 _ wr hs1)
      rw [ratErr_yes hcut.out] at k1
      have HS3 := Lib.hid hs2
      have k2 : Hid (∀ W, IntsS W A2 q (twoL said q) → Calls Try.prog 17 #[.int .i64 (q : Int), .int .i64 2, .slice A2 q c2] W (RatErr W (regN q 2 (twoL said q)) (regD q 2 (twoL said q)) 0)) := fun W h => by
        have h1 := f17_any A2 q 2 q c2 (twoL said q) W h
        have e : RatErr W (regX (q : Int) 2 (twoL said q)) (regY (q : Int) 2 (twoL said q)) (regErr (q : Int) 2 (twoL said q)) = RatErr W (regN q 2 (twoL said q)) (regD q 2 (twoL said q)) 0 := ratErr_yes (folk := 2) htwo.out
        rwa [e] at h1
      have HBL := Lib.hid hbel
      have hsz := hbel.size
      clear hcut htwo hv hu hap hbel hI i1 i2 i3 i4 hs1 hs2 HC
      generalize regN q m (cutL said m q) = X1 at *
      generalize regD q m (cutL said m q) = Y1 at *
      generalize regN q 2 (twoL said q) = X2 at *
      generalize regD q 2 (twoL said q) = Y2 at *
      go_wp2_with fail
      refine k1.out.mono ?_
      rintro e w3 ⟨rfl, hb3⟩
      go_wp2_with fail
      have k2x := k2.out _ ((HS3.out.below hb3).below (below_alloc w3 (.cells #[.int .i64 (X1 : Int), .int .i64 (Y1 : Int)] 26)))
      refine k2x.mono ?_
      rintro e w4 ⟨rfl, hb4⟩
      obtain ⟨w5, hw5⟩ : ∃ w5, w5 = w4.alloc (.cells #[.int .i64 (X2 : Int), .int .i64 (Y2 : Int)] 26) := ⟨_, rfl⟩
      have hsz3 := hb3.size
      have hsz4 := hb4.size
      have b35 : Below (w3.alloc (.cells #[.int .i64 (X1 : Int), .int .i64 (Y1 : Int)] 26)).heap.size (w3.alloc (.cells #[.int .i64 (X1 : Int), .int .i64 (Y1 : Int)] 26)) w5 := by rw [hw5]; exact below_step hb4 (below_alloc _ _)
      have b15 : Below wr.heap.size wr w5 := below_step hb3 (below_step (below_alloc w3 (.cells #[.int .i64 (X1 : Int), .int .i64 (Y1 : Int)] 26)) b35)
      have b25 : Below w2.heap.size w2 w5 := below_step HBL.out b15
      have B5 := Lib.hid (below_step B1.out b25)
      have C5 : Hid (w5.cell? ⟨w1.heap.size, 0, none⟩ = some (.int .i64 (X : Int)) ∧ w5.cell? ⟨w1.heap.size, 1, none⟩ = some (.int .i64 (Y : Int)) ∧ w5.cell? ⟨w3.heap.size, 0, none⟩ = some (.int .i64 (X1 : Int)) ∧ w5.cell? ⟨w3.heap.size, 1, none⟩ = some (.int .i64 (Y1 : Int)) ∧
          w5.cell? ⟨w4.heap.size, 0, none⟩ = some (.int .i64 (X2 : Int)) ∧ w5.cell? ⟨w4.heap.size, 1, none⟩ = some (.int .i64 (Y2 : Int))) :=
        ⟨(b25.cell (lt_of_cell P0.out)).trans P0.out, (b25.cell (lt_of_cell P1.out)).trans P1.out, (rat_cells b35).1, (rat_cells b35).2, by rw [hw5]; exact cell_new _ _ _ 0, by rw [hw5]; exact cell_new _ _ _ 1⟩
      subst hw5
      obtain ⟨c1, c2, c3, c4, c5, c6⟩ := C5.out
      have q3' : (1 : Int) ≤ (Y1 : Int) := by omega
      clear hb3 hb4 b35 b15 b25 k1 k2 k2x HS3 hsz hsz3 hsz4 p0 p1 HBL
      go_wp2_with fail
      refine (hless.out _).mono ?_
      rintro e w6 ⟨rfl, hb6⟩
      have B6 := Lib.hid (below_step B5.out hb6)
      have e5 := (hb6.cell (lt_of_cell c5)).trans c5
      have e6 := (hb6.cell (lt_of_cell c6)).trans c6
      have e3 := (hb6.cell (lt_of_cell c3)).trans c3
      have e4 := (hb6.cell (lt_of_cell c4)).trans c4
      clear c1 c2 c3 c4 c5 c6 C5 B5 hb6 hless
      by_cases hm1' : m = 1
      all_goals first
        | (have h1 : m = 1 := hm1'
           obtain ⟨rfl, rfl⟩ := Q5.out h1
           subst h1
           go_wp2_with fail)
        | (have hm2 : (1 : Int) < (m : Int) := by omega
           have hm3 : ((m : Int) == 1) = false := by simp; omega
           go_wp2_with fail)
      all_goals
        clear e3 e4
        go_loopw [18, 19, 20, 21] (fun sm s _ _ wr => ∃ t : Nat, t ≤ N ∧ s = .int .i64 (t : Int) ∧ sm = .int .i64 (sumN (fun s => far q (onesTo s q)) t : Int) ∧ ∃ d, wr = w6.drewN d) (fun _ s _ _ _ => N - (intOf s).toNat)
        case atStart => exact ⟨0, by omega, rfl, rfl, 0, rfl⟩
        case round =>
          obtain ⟨s, hs, rfl, rfl, d, rfl⟩ := hrel
          have hle : sumN (fun s => far q (onesTo s q)) s ≤ 10240 := Nat.le_trans (sumN_le (h := fun _ => 10) fun i hi => Nat.le_trans (far_le q _ (onesTo_le i q)) g2) (by rw [sumN_const]; omega)
          by_cases hlt : s < N
          · have hst : Hid (sumN (fun s => far q (onesTo s q)) (s + 1) = sumN (fun s => far q (onesTo s q)) s + far q (onesTo s q)) := rfl
            generalize sumN (fun s => far q (onesTo s q)) s = v at *
            go_wp2
            go_loopw [20, 21] (fun a i wr => ∃ (n : Nat) (z : Int), n ≤ q ∧ i = .int .i64 (n : Int) ∧ a = .int .i64 z ∧ z = 2 * (onesTo s n : Int) - n ∧ ∃ d, wr = w6.drewN d) (fun _ i _ => q - (intOf i).toNat)
            case atStart => exact ⟨0, 0, by omega, rfl, rfl, rfl, d, rfl⟩
            case round =>
              obtain ⟨n, z, hn, rfl, rfl, hz, d2, rfl⟩ := hrel
              have ho := onesTo_le s n
              by_cases hlt2 : n < q
              · have hst2 : Hid (onesTo s (n + 1) = onesTo s n + bitN s n) := rfl
                have es := bit_rem s n
                have hb := bitN_le s n
                have z1 : IntKind.i64.wrap (2 * (bitN s n : Int)) = 2 * (bitN s n : Int) := IntWalk.i64_in _ (by omega)
                have z2 : IntKind.i64.wrap (2 * (bitN s n : Int) - 1) = 2 * (bitN s n : Int) - 1 := IntWalk.i64_in _ (by omega)
                have z3 : IntKind.i64.wrap (z + (2 * (bitN s n : Int) - 1)) = z + (2 * (bitN s n : Int) - 1) := IntWalk.i64_in _ (by omega)
                have hz2 : Hid (z + (2 * (bitN s n : Int) - 1) = 2 * (onesTo s (n + 1) : Int) - ((n + 1 : Nat) : Int)) := by unfold Hid; rw [hst2.out]; omega
                generalize bitN s n = b at *
                clear hz ho hst2
                go_wp2
                go_roundw
                case rel => exact ⟨n + 1, _, by omega, by go_num, rfl, hz2.out, by first | exact ⟨_, rfl⟩ | exact ⟨_, World.drewN_drewN _ _ _⟩⟩
                case measure => simp [intOf]; omega
              · obtain rfl : n = q := by omega
                obtain ⟨Z, hZ⟩ : ∃ Z, Z = z.natAbs := ⟨_, rfl⟩
                have hf : Hid (far n (onesTo s n) = Z) := by unfold Hid far; split <;> omega
                have z4 : IntKind.i64.wrap (-z) = -z := IntWalk.i64_in _ (by omega)
                have hmx : Hid ((if z < -z then -z else z) = (Z : Int)) := by unfold Hid; split <;> omega
                have hz10 : Z ≤ 10 := by omega
                have zl : -10 ≤ z := by omega
                have zu : z ≤ 10 := by omega
                clear hz ho hZ
                go_wp2
                go_roundw
                case rel => exact ⟨s + 1, by omega, by go_num, by rw [hst.out, hf.out, hmx.out]; go_num, by first | exact ⟨_, rfl⟩ | exact ⟨_, World.drewN_drewN _ _ _⟩⟩
                case measure => simp [intOf]; omega
          · obtain rfl : s = N := by omega
            have hQ := Q6.out
            rw [← HN.out] at hQ
            generalize sumN (fun s => far q (onesTo s q)) s = v at *
            have hb1 : v * Y2 ≤ 10240 * 1024 := Nat.mul_le_mul hle q12
            obtain ⟨P, hP⟩ : ∃ P, P = v * Y2 := ⟨_, rfl⟩
            obtain ⟨X3, hX3⟩ : ∃ X3, X3 = X2 * 2 := ⟨_, rfl⟩
            have g1' : IntKind.i64.wrap ((X2 : Int) * 2) = (X3 : Int) := by rw [IntWalk.i64_in _ (by omega)]; omega
            have g2' : IntKind.i64.wrap ((X3 : Int) * 2 ^ q) = (P : Int) := by
              have e : (X3 : Int) * 2 ^ q = ((v * Y2 : Nat) : Int) := by
                rw [← hQ, ← hX3, HN.out]; simp
              rw [e, IntWalk.i64_in _ (by omega)]; omega
            have g3' : IntKind.i64.wrap ((v : Int) * (Y2 : Int)) = (P : Int) := by
              have e : (v : Int) * (Y2 : Int) = ((v * Y2 : Nat) : Int) := by simp
              rw [e, IntWalk.i64_in _ (by omega)]; omega
            have B7 : Hid (Below w.heap.size w (w6.drewN d)) := below_drewN B6.out d
            have e5' : (w6.drewN d).cell? ⟨w4.heap.size, 0, none⟩ = some (.int .i64 (X2 : Int)) := e5
            have e6' : (w6.drewN d).cell? ⟨w4.heap.size, 1, none⟩ = some (.int .i64 (Y2 : Int)) := e6
            clear hQ hb1 hP hX3 e5 e6 B6
            generalize w6.drewN d = w7 at *
            go_wp2
            go_region_with ((go_at_call 16; refine (f16_any _).mono ?_; rintro e w8 ⟨rfl, hb8⟩; have B8 : Hid (Below w.heap.size w w8) := (by first | exact below_step B7.out hb8 | exact below_step B7.out.drew hb8); clear hb8))
            all_goals (try go_wp2)
            all_goals exact bodyPost_ret (v := .bool true) (by simp [results, Try.results4, go_sem]) rfl ⟨rfl, B8.out⟩
end Go.Proofs.Ytfaenbaaadjbbaa
