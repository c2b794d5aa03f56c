/- Walk: LuckGoal, a record of foretellers. -/
import Derived.Test.YtfaenbaaadjbbaaW33
namespace Go.Proofs.Ytfaenbaaadjbbaa
open Go.RowKit

set_option maxRecDepth 100000 in
set_option maxHeartbeats 8000000 in
/-- dibberlaw05.LuckGoal: a record of foretellers -/
theorem f5_yes (k folk : Nat) (A B : Option Addr) (c m d : Nat) (said : List (List Int)) (ns : List Int) (w : World) (hs : Came2 w A k said) (hn : Bytes w B m ns) (hf : fewB (said.map List.length) 0 = true) (hok : saidOk k folk said = true) :
    Calls Try.prog 5 #[.int .i64 (k : Int), .int .i64 (folk : Int), .slice A k c, .slice B m d] w fun e w' => e = .returned (.bool true) ∧ Below w.heap.size w w' := by
  have k15 := Lib.hid (f15_any A none c k 0 0 _ w hs.1 (by omega))
  rw [hf] at k15
  have hS := hs.ints hf
  have k17 := Lib.hid (f17_any A k folk k c said w hS)
  rw [ratErr_yes hok] at k17
  have HS := Lib.hid hS
  have HN := Lib.hid hn
  have hml := hn.2.2
  have k19 := Lib.hid (f19_any A k folk k c said w hS)
  rw [hok] at k19
  obtain ⟨k', f', e1, e2, g1, g2, g3, g4, g5, g6, g7⟩ := saidOk_facts hok
  obtain rfl : k = k' := by omega
  obtain rfl : folk = f' := by omega
  obtain ⟨b1, b2, b3⟩ : regN k folk said ≤ 10240 ∧ regD k folk said ≤ 1024 ∧ 1 ≤ regD k folk said := by
    refine ⟨?_, ?_, ratD_pos (Nat.pow_pos (by omega))⟩
    · unfold regN
      refine Nat.le_trans (ratN_le _ _) (Nat.le_trans (Nat.sub_le _ _) ?_)
      have : 2 ^ (k - 1) ≤ 1024 := pow10 _ (by omega)
      exact Nat.le_trans (Nat.mul_le_mul g2 this) (by omega)
    · unfold regD; exact Nat.le_trans (ratD_le _ _) (pow10 k g2)
  have HROW := Lib.hid g6
  have HB := Lib.hid g7
  have HX : Hid (∀ R, 60 * regN k folk said = R * regD k folk said → canB k (capL said k folk R (2 ^ k)) = false → capB said k folk R (2 ^ k) = true) := fun R hR h => cap_can g7 g1 g3 hR h
  generalize regN k folk said = X at *
  generalize regD k folk said = Y at *
  obtain ⟨N, hN, hshl⟩ := shl_one k (by omega)
  have hN2 : N ≤ 1024 := by rw [hN]; exact pow10 k g2
  have HNd := Lib.hid hN
  obtain ⟨D, hD⟩ : ∃ D, D = 60 * X := ⟨_, rfl⟩
  have eD : (60 : Int) * (X : Int) = (D : Int) := by omega
  have hD2 : D ≤ 614400 := by omega
  obtain ⟨M, hM⟩ : ∃ M, M = D % Y := ⟨_, rfl⟩
  have hM2 : M < Y := by rw [hM]; exact Nat.mod_lt _ (by omega)
  have eM : (D : Int).tmod (Y : Int) = (M : Int) := by rw [hM]; rfl
  obtain ⟨R, hR⟩ : ∃ R, R = D / Y := ⟨_, rfl⟩
  have hR2 : R ≤ 614400 := by rw [hR]; exact Nat.le_trans (Nat.div_le_self _ _) hD2
  have eR : (D : Int).tdiv (Y : Int) = (R : Int) := by rw [hR]; rfl
  have HDR : Hid (M = 0 → 60 * X = R * Y) := fun h => by
    have := Nat.div_add_mod D Y
    rw [← hM, ← hR, h, Nat.add_zero, Nat.mul_comm] at this
    omega
  clear hs hf hS hok e1 e2 g5 g6 g7 hn hN hD hM hR
  by_cases hM0 : M = 0
  · subst hM0
    have HRX := Lib.hid (HDR.out rfl)
    have k21 := Lib.hid (fun q W h => f21_any A k folk c q said W h g2 g4 HROW.out)
    clear HDR
    go_enter Try.func5, Try.ntmps5
    go_wp2_with fail
    refine k15.out.mono ?_
    rintro e w' ⟨rfl, rfl⟩
    go_wp2_with fail
    refine k19.out.mono ?_
    rintro e w' ⟨rfl, rfl⟩
    go_wp2_with fail
    refine k17.out.mono ?_
    rintro e w1 ⟨rfl, hb⟩
    obtain ⟨w2, hw2⟩ : ∃ w2, w2 = w1.alloc (.cells #[.int .i64 (X : Int), .int .i64 (Y : Int)] 26) := ⟨_, rfl⟩
    have B1 : Hid (Below w.heap.size w w2) := by rw [hw2]; exact below_step hb (below_alloc w1 (.cells #[.int .i64 (X : Int), .int .i64 (Y : Int)] 26))
    have p0 : w2.cell? ⟨w1.heap.size, 0, none⟩ = some (.int .i64 (X : Int)) := by rw [hw2]; exact cell_new _ _ _ _
    have p1 : w2.cell? ⟨w1.heap.size, 1, none⟩ = some (.int .i64 (Y : Int)) := by rw [hw2]; exact cell_new _ _ _ _
    have HW2 := Lib.hid hw2
    have HS2 := Lib.hid (HS.out.below B1.out)
    have HN2 := Lib.hid (HN.out.below B1.out)
    clear hb hw2 k17 k15 k19
    go_wp2_with fail
    rw [← HW2.out]
    go_wp2_with fail
    have e60 : IntKind.i64.wrap ((60 : Int) * (k : Int)) = 60 * (k : Int) := IntWalk.i64_in _ (by omega)
    go_loopw [11, 12] (fun v s wr => ∃ q : Nat, q ≤ N ∧ s = .int .i64 (q : Int) ∧ Row wr w2.heap.size v (capL said k folk R q) ∧ Below w2.heap.size w2 wr) (fun _ s _ => N - (intOf s).toNat)
    case atStart => exact ⟨0, by omega, rfl, Row.nil _ _, Below.refl _ _⟩
    case round => as_aux_lemma =>
      obtain ⟨q, hq, rfl, hrow, hbel⟩ := hrel
      have HR := Lib.hid hrow
      have HBL := Lib.hid hbel
      have hsz := hbel.size
      by_cases hlt : q < N
      · have c0 := (hbel.cell (lt_of_cell p0)).trans p0
        have c1 := (hbel.cell (lt_of_cell p1)).trans p1
        have K21 := Lib.hid (fun W (h : Below w2.heap.size w2 W) => k21.out q W (HS2.out.below h))
        have hst := Lib.hid (capL_succ said k folk R q)
        have hcg : Hid (capG said k folk R q = min (60 * k) (60 * bestTo said k q folk + R)) := rfl
        have hbt : bestTo said k q folk ≤ 10 := Nat.le_trans (bestTo_le said k q folk) g2
        generalize bestTo said k q folk = bt at *
        generalize capG said k folk R q = cg at *
        have hll : Hid ((capL said k folk R q).length ≤ 1000000) := by rw [capL_len]; unfold Hid; omega
        clear hrow hbel
        obtain ⟨T, hT⟩ : ∃ T, T = 60 * bt + R := ⟨_, rfl⟩
        obtain ⟨K, hK⟩ : ∃ K, K = 60 * k := ⟨_, rfl⟩
        obtain ⟨V, hV⟩ : ∃ V : Nat, (V = T ∧ T < K) ∨ (V = K ∧ ¬ T < K) := by
          by_cases h : T < K
          · exact ⟨T, .inl ⟨rfl, h⟩⟩
          · exact ⟨K, .inr ⟨rfl, h⟩⟩
        have HV : Hid (V = cg) := by unfold Hid; rw [hcg.out]; omega
        have w60 : IntKind.i64.wrap ((60 : Int) * (bt : Int)) = 60 * (bt : Int) := IntWalk.i64_in _ (by omega)
        have wT : IntKind.i64.wrap (60 * (bt : Int) + (R : Int)) = (T : Int) := by rw [IntWalk.i64_in _ (by omega)]; omega
        have wK : IntKind.i64.wrap ((60 : Int) * (k : Int)) = (K : Int) := by rw [IntWalk.i64_in _ (by omega)]; omega
        clear hcg hT hK e60
        have wD : IntKind.i64.wrap (D : Int) = (D : Int) := IntWalk.i64_in _ (by omega)
        have wRR : IntKind.i64.wrap (R : Int) = (R : Int) := IntWalk.i64_in _ (by omega)
        rcases hV with ⟨h1, h2⟩ | ⟨h1, h2⟩ <;> subst h1
        all_goals
          go_wp2_with fail
          have R1 : Hid (∀ x, Row ((wr.drewN x).alloc (.cells #[.int .i64 (V : Int)] 3)) w2.heap.size u11 (capL said k folk R q)) := fun x => (HR.out.drewN x).alloc _
          have R2 : Hid (∀ x, ((wr.drewN x).alloc (.cells #[.int .i64 (V : Int)] 3)).cell? ⟨wr.heap.size, 0, none⟩ = some (.int .i64 (V : Int))) := fun x => cell_new (wr.drewN x) _ 3 0
          have R4 : Hid (∀ x, w2.heap.size ≤ ((wr.drewN x).alloc (.cells #[.int .i64 (V : Int)] 3)).heap.size) := fun x => by simp; omega
          have R5 : Hid (∀ x w', ((wr.drewN x).alloc (.cells #[.int .i64 (V : Int)] 3)).grownBy w' u11.ownBlock → Below w2.heap.size w2 w') := fun x w' hg => below_grown ((below_drewN HBL.out x).alloc hsz _) hg (by simp; omega) ((HR.out.drewN x).alloc _) (Nat.le_refl _)
          have R6 : Hid (∀ w' : World, Below w2.heap.size w2 w' → w'.cell? ⟨w1.heap.size, 0, none⟩ = some (.int .i64 (X : Int)) ∧ w'.cell? ⟨w1.heap.size, 1, none⟩ = some (.int .i64 (Y : Int))) := fun w' hb => ⟨(hb.cell (lt_of_cell p0)).trans p0, (hb.cell (lt_of_cell p1)).trans p1⟩
          go_region_held3 (fun w' => w'.cell? ⟨w1.heap.size, 0, none⟩ = some (.int .i64 (X : Int)) ∧ w'.cell? ⟨w1.heap.size, 1, none⟩ = some (.int .i64 (Y : Int)))
            (first | go_keep | exact R6.out _ HG)
            (first | (go_at_call 21; refine (K21.out _ (by first | exact HBL.out | exact HBL.out.drew)).mono ?_; rintro e w8 ⟨rfl, dd, rfl⟩) | (refine step_push (by rfl) _ _ (by rfl) w2.heap.size u11 (capL said k folk R q) (by rfl) (R1.out _) wr.heap.size 1 (V : Int) (by rfl) (R2.out _) hll.out (R4.out _) ?_; intro v' w' hr' hg'; have HG := R5.out _ w' hg'))
          rw [HV.out, hst.out] at hr'
          have HR2 := Lib.hid hr'
          have HB2 := Lib.hid HG
          clear hr' hg' HG
          go_wp2_with fail
          go_roundw
          case rel => exact ⟨q + 1, by omega, by go_num, HR2.out, HB2.out⟩
          case measure => simp [intOf]; omega
      · obtain rfl : q = N := by omega
        obtain ⟨A2, c2, rfl, hi2, hcap2⟩ := hrow.form3 (by rw [capL_len]; omega)
        rw [capL_len] at hi2 hcap2
        rw [capL_len]
        have HI2 := Lib.hid hi2
        clear hrow hi2
        obtain ⟨wq, rfl⟩ : ∃ wq : World, wq = wr := ⟨_, rfl⟩
        have hsz0 := hbel.size
        have HBQ := Lib.hid hbel
        have HNQ := Lib.hid (HN2.out.below hbel)
        have c0 := (hbel.cell (lt_of_cell p0)).trans p0
        have c1 := (hbel.cell (lt_of_cell p1)).trans p1
        have hw1l : w1.heap.size < wq.heap.size := lt_of_cell c0
        obtain ⟨K1, hK1⟩ : ∃ K1, K1 = k - 1 := ⟨_, rfl⟩
        have wK1 : IntKind.i64.wrap ((k : Int) - 1) = (K1 : Int) := by rw [IntWalk.i64_in _ (by omega)]; omega
        have hKk := Lib.hid (show K1 + 1 = k by omega)
        have hK10 : K1 ≤ 9 := by omega
        clear hbel hK1 hsz
        go_wp2_with fail
        go_loopw [13, 14] (fun v i wr => ∃ j : Nat, j ≤ m ∧ j ≤ K1 ∧ i = .int .i64 (j : Int) ∧ Row wr wq.heap.size v (halfL ns j) ∧ Below wq.heap.size wq wr) (fun _ i _ => 10 - (intOf i).toNat)
        case atStart => exact ⟨0, by omega, by omega, rfl, Row.nil _ _, Below.refl _ _⟩
        case round => as_aux_lemma =>
          obtain ⟨j, hj1, hj2, rfl, hrow, hbel⟩ := hrel
          have HR := Lib.hid hrow
          have HBJ := Lib.hid hbel
          have hszj := hbel.size
          have htest : (j < m ∧ j < K1) ∨ ¬ j < m ∨ (j < m ∧ ¬ j < K1) := by omega
          rcases htest with ⟨t1, t2⟩ | t1 | ⟨t1, t2⟩
          · obtain ⟨b, off, rfl, hcb⟩ := HNQ.out.1 (by omega)
            have hcb := (hbel.cell (lt_of_cell (hcb j t1))).trans (hcb j t1)
            obtain ⟨e1, e2, e3⟩ := u8_half _ (HNQ.out.2.1 j)
            have hst := Lib.hid (halfL_succ ns j)
            have hll : Hid ((halfL ns j).length ≤ 1000000) := by rw [halfL_len]; unfold Hid; omega
            generalize ns.getD j 0 % 2 = h at *
            generalize ns.getD j 0 = x at *
            clear hrow hbel
            go_wp2_with (at_builtin; refine wpList_push rfl (.tmp 96) (.tmp 103) rfl wq.heap.size _ (halfL ns j) rfl (HR.out.alloc _) wr.heap.size 1 h rfl ?hc ?hl ?hb ?hr)
            case hc => exact cell_new wr _ 3 0
            case hl => exact hll.out
            case hb => simp; omega
            case hr =>
              intro v2 w4 hr hg2
              rw [hst.out] at hr
              have B2 : Hid (Below wq.heap.size wq w4) := below_grown (HBJ.out.alloc hszj _) hg2 (by simp; omega) (HR.out.alloc _) (Nat.le_refl _)
              have HR2 := Lib.hid hr
              clear hr hg2
              go_wp2_with fail
              go_roundw
              case rel => exact ⟨j + 1, by omega, by omega, by go_num, HR2.out, B2.out⟩
              case measure => simp [intOf]; omega
          all_goals
            obtain ⟨A3, c3, rfl, hi3, hn3⟩ := hrow.form2 (by rw [halfL_len]; omega)
            rw [halfL_len] at hi3 hn3 ⊢
            have HI3 := Lib.hid hi3
            have HN3 := Lib.hid hn3
            have HI4 := Lib.hid (HI2.out.below hbel)
            have HBX := Lib.hid (below_step B1.out (below_step HBQ.out hbel))
            have HSX := Lib.hid (HS2.out.below (below_step HBQ.out hbel))
            have hjk : Hid (j < k) := by have := hKk.out; unfold Hid; omega
            have c0 := (hbel.cell (lt_of_cell c0)).trans c0
            have c1 := (hbel.cell (lt_of_cell c1)).trans c1
            clear hrow hbel hi3 hn3
            obtain ⟨wj, rfl⟩ : ∃ wj : World, wj = wr := ⟨_, rfl⟩
            obtain ⟨l1, l2, l3⟩ := gl_law (said := said) (folk := folk) (r := R) g1 g2 HNd.out
            have hcapc : Hid (canB k (capL said k folk R q) = false → capB said k folk R q = true) := fun h => by
              have h2 := HX.out R HRX.out
              rw [← HNd.out] at h2
              exact h2 h
            have K22 := Lib.hid (f22_any A2 k q c2 (capL said k folk R q) wj HI4.out)
            rw [l1] at K22
            have L2 := Lib.hid l2
            have L3 := Lib.hid (l3 ns j hjk.out)
            have K23 := Lib.hid (fun W h h2 => f23_any A2 A3 k q c2 j c3 (capL said k folk R q) (halfL ns j) W h hcap2 h2 HN3.out)
            generalize canR k (capL said k folk R q) = cc at *
            generalize guX k (capL said k folk R q) (halfL ns j) = gx at *
            generalize guY k (capL said k folk R q) (halfL ns j) = gy at *
            generalize guE k (capL said k folk R q) (halfL ns j) = ge at *
            clear l1 l2 l3 hszj
            go_wp2_with fail
            refine K22.out.mono ?_
            rintro e w5 ⟨rfl, hb⟩
            have c0 := (hb.cell (lt_of_cell c0)).trans c0
            have c1 := (hb.cell (lt_of_cell c1)).trans c1
            have HI5 := Lib.hid (HI4.out.below hb)
            have HI35 := Lib.hid (HI3.out.below hb)
            have HB5 := Lib.hid (below_step HBX.out hb)
            have HS5 := Lib.hid (HSX.out.below hb)
            clear hb K22
            go_wp2_with fail
            go_loopw [16, 17] (fun b i wr => ∃ t : Nat, t ≤ q ∧ i = .int .i64 (t : Int) ∧ b = .bool (capB said k folk R t) ∧ ∃ d, wr = w5.drewN d) (fun _ i _ => 1024 - (intOf i).toNat)
            case atStart => exact ⟨0, by omega, rfl, rfl, 0, rfl⟩
            case round => as_aux_lemma =>
              obtain ⟨t, ht, rfl, rfl, d2, rfl⟩ := hrel
              by_cases hlt : t < q
              · have hst : Hid (capB said k folk R (t + 1) = (capB said k folk R t || decide (capG said k folk R t < 60 * bestTo said k t folk + R))) := rfl
                cases hcb : capB said k folk R t
                · rw [hcb, Bool.false_or] at hst
                  obtain ⟨bG, oG, hA2, hcell⟩ := HI5.out.at_ hlt
                  rw [capL_get hlt] at hcell
                  subst hA2
                  have hbt : bestTo said k t folk ≤ 10 := Nat.le_trans (bestTo_le said k t folk) g2
                  have K21 := Lib.hid (fun d => k21.out t (w5.drewN d) (HS5.out.drewN d))
                  have hcg2 : capG said k folk R t ≤ 60 * k := capG_le said k folk R t
                  obtain ⟨T, hT⟩ : ∃ T, T = 60 * bestTo said k t folk + R := ⟨_, rfl⟩
                  rw [← hT] at hst
                  generalize bestTo said k t folk = bt at *
                  generalize capG said k folk R t = cg at *
                  have w60 : IntKind.i64.wrap ((60 : Int) * (bt : Int)) = 60 * (bt : Int) := IntWalk.i64_in _ (by omega)
                  have wT : IntKind.i64.wrap (60 * (bt : Int) + (R : Int)) = (T : Int) := by rw [IntWalk.i64_in _ (by omega)]; omega
                  have wD : IntKind.i64.wrap (D : Int) = (D : Int) := IntWalk.i64_in _ (by omega)
                  have wRR : IntKind.i64.wrap (R : Int) = (R : Int) := IntWalk.i64_in _ (by omega)
                  have R6 : Hid (∀ x, (w5.drewN x).cell? ⟨w1.heap.size, 0, none⟩ = some (.int .i64 (X : Int)) ∧ (w5.drewN x).cell? ⟨w1.heap.size, 1, none⟩ = some (.int .i64 (Y : Int)) ∧ (w5.drewN x).cell? ⟨bG, oG + t, none⟩ = some (.int .i64 (cg : Int))) := fun x => ⟨c0, c1, hcell⟩
                  have f0 : (w5.drewN d2).cell? ⟨w1.heap.size, 0, none⟩ = some (.int .i64 (X : Int)) := c0
                  have f1 : (w5.drewN d2).cell? ⟨w1.heap.size, 1, none⟩ = some (.int .i64 (Y : Int)) := c1
                  have f2 : (w5.drewN d2).cell? ⟨bG, oG + t, none⟩ = some (.int .i64 (cg : Int)) := hcell
                  have ht0 : (0 : Int) ≤ (t : Int) := by omega
                  have htq : (t : Int) < (q : Int) := by omega
                  clear hcb hT
                  go_wp2_with fail
                  go_region_held3 (fun w' => w'.cell? ⟨w1.heap.size, 0, none⟩ = some (.int .i64 (X : Int)) ∧ w'.cell? ⟨w1.heap.size, 1, none⟩ = some (.int .i64 (Y : Int)) ∧ w'.cell? ⟨bG, oG + t, none⟩ = some (.int .i64 (cg : Int)))
                    (first | go_keep | exact R6.out _)
                    (first | (go_at_call 21; refine (K21.out _).mono ?_; rintro e w8 ⟨rfl, dd, rfl⟩))
                  all_goals
                    go_wp2_with fail
                    go_roundw
                    case rel => exact ⟨t + 1, by omega, by go_num, by rw [hst.out], by first | exact ⟨_, rfl⟩ | exact ⟨_, World.drewN_drewN _ _ _⟩⟩
                    case measure => simp [intOf]; omega
                · rw [hcb, Bool.true_or] at hst
                  clear hcb
                  go_wp2_with fail
                  go_quiet (fail)
                  go_wp2
                  go_roundw
                  case rel => exact ⟨t + 1, by omega, by go_num, by rw [hst.out], by first | exact ⟨_, rfl⟩ | exact ⟨_, World.drewN_drewN _ _ _⟩⟩
                  case measure => simp [intOf]; omega
              · obtain rfl : t = q := by omega
                have HB6 : Hid (Below w.heap.size w (w5.drewN d2)) := below_drewN HB5.out d2
                have K23x := Lib.hid (K23.out (w5.drewN d2) (HI5.out.drewN d2) (HI35.out.drewN d2))
                have c0' : (w5.drewN d2).cell? ⟨w1.heap.size, 0, none⟩ = some (.int .i64 (X : Int)) := c0
                generalize w5.drewN d2 = w6 at *
                generalize capB said k folk R t = cp at *
                clear c0 c1 K23 HI5 HI35 HS5
                go_wp2_with fail
                refine K23x.out.mono ?_
                rintro e w7 ⟨rfl, hb⟩
                have HB7 := Lib.hid (below_step HB6.out hb)
                clear hb K23x
                have HB8 := Lib.hid (below_step HB7.out (below_alloc w7 (.cells #[.int .i64 gx, .int .i64 gy] 26)))
                have q0 : (w7.alloc (.cells #[.int .i64 gx, .int .i64 gy] 26)).cell? ⟨w7.heap.size, 0, none⟩ = some (.int .i64 gx) := cell_new _ _ _ _
                have q1 : (w7.alloc (.cells #[.int .i64 gx, .int .i64 gy] 26)).cell? ⟨w7.heap.size, 1, none⟩ = some (.int .i64 gy) := cell_new _ _ _ _
                cases hcb : canB k (capL said k folk R t)
                · obtain ⟨m1, m2, m3⟩ := L3.out.2 hcb
                  have m4 := hcapc.out hcb
                  have m5 := L2.out
                  rw [hcb] at m5
                  have m6 : cc = 0 := m5
                  clear L2 L3 hcapc hcb m5
                  subst m1 m2 m3 m4 m6
                  go_wp2_with fail
                  refine (f16_any _).mono ?_
                  rintro e w8 ⟨rfl, hb8⟩
                  have B8 := Lib.hid (below_step HB8.out hb8)
                  clear hb8
                  go_wp2_with fail
                  go_ret
                  exact ⟨rfl, B8.out⟩
                · obtain ⟨m1, x, y, m2, m3, m7, m8⟩ := L3.out.1 hcb
                  have m5 := L2.out
                  rw [hcb] at m5
                  have m6 : cc = 1 := m5
                  clear L2 L3 hcapc hcb m5
                  subst m1 m2 m3 m6
                  have y1 : (0 : Int) < (y : Int) := by omega
                  have x0 : (0 : Int) ≤ (x : Int) := by omega
                  have xy : (x : Int) ≤ (y : Int) := by omega
                  cases cp
                  all_goals
                    go_wp2_with fail
                    refine (f16_any _).mono ?_
                    rintro e w8 ⟨rfl, hb8⟩
                    have B8 := Lib.hid (below_step HB8.out hb8)
                    clear hb8
                    go_wp2_with fail
                    go_ret
                    exact ⟨rfl, B8.out⟩
  · have hq : ((M : Int) != 0) = true := by simp; omega
    clear HDR HX
    go_enter Try.func5, Try.ntmps5
    go_wp2_with fail
    refine k15.out.mono ?_
    rintro e w' ⟨rfl, rfl⟩
    go_wp2_with fail
    refine k19.out.mono ?_
    rintro e w' ⟨rfl, rfl⟩
    go_wp2_with fail
    refine k17.out.mono ?_
    rintro e w1 ⟨rfl, hb⟩
    have B1 := Lib.hid (below_step hb (below_alloc w1 (.cells #[.int .i64 (X : Int), .int .i64 (Y : Int)] 26)))
    clear hb k17 k15 k19
    go_wp2_with fail
    refine (f16_any _).mono ?_
    rintro e w8 ⟨rfl, hb8⟩
    have B8 := Lib.hid (below_step B1.out hb8)
    clear hb8
    go_wp2_with fail
    go_ret
    exact ⟨rfl, B8.out⟩
/-- dibberlaw05.LuckGoal -/
theorem f5_any (k folk : Int) (A B : Option Addr) (n c m d : Nat) (said : List (List Int)) (ns : List Int) (w : World) (hs : Came2 w A n said) (hn : Bytes w B m ns) :
    Calls Try.prog 5 #[.int .i64 k, .int .i64 folk, .slice A n c, .slice B m d] w fun e w' => e = .returned (.bool true) ∧ Below w.heap.size w w' := by
  cases hf : fewB (said.map List.length) 0
  · exact f5_no k folk A B n c m d said w hs (.inl hf)
  · cases hok : saidOk k folk said
    · exact f5_no k folk A B n c m d said w hs (.inr hok)
    · have hl := (hs.ints hf).len
      obtain ⟨m', f', rfl, rfl, h1, h2, h3, h4, h5, h6, h7⟩ := saidOk_facts hok
      obtain rfl : n = m' := by omega
      exact f5_yes n f' A B c m d said ns w hs hn hf hok
end Go.Proofs.Ytfaenbaaadjbbaa
