/- Walk: LuckWinnows. -/
import Derived.Test.YtfaenbaaadjbbaaW46
namespace Go.Proofs.Ytfaenbaaadjbbaa
open Go.RowKit

set_option maxRecDepth 100000 in
set_option maxHeartbeats 4000000 in
/-- dibberlaw05.LuckWinnows: nothing to say -/
theorem f11_no (n : Int) (A B : Option Addr) (k c m d : Nat) (said : List (List Int)) (w : World) (hs : Came2 w A k said) (hm : m ≤ 9223372036854775807) (h : fewB (said.map List.length) 0 = false ∨ 20 < m ∨ n < 1 ∨ 20 < n) :
    Calls Try.prog 11 #[.int .i64 n, .slice A k c, .slice B m d] w fun e w' => e = .returned (.bool true) ∧ Below w.heap.size w w' := by
  have k15 := Lib.hid (f15_any A none c k 0 0 _ w hs.1 (by omega))
  cases hf : fewB (said.map List.length) 0
  · rw [hf] at k15
    clear hs hf h
    go_enter Try.func11, Try.ntmps11
    go_wp2_with fail
    refine k15.out.mono ?_
    rintro e w' ⟨rfl, rfl⟩
    go_wp2_with fail
    refine (f16_any _).mono ?_
    rintro e w6 ⟨rfl, hb6⟩
    have B6 := Lib.hid hb6
    clear hb6
    go_wp2_with fail
    go_ret
    exact ⟨rfl, B6.out⟩
  · have h := h.resolve_left (by rw [hf]; decide)
    rw [hf] at k15
    clear hs hf
    by_cases t1 : 20 < m
    · clear h
      go_enter Try.func11, Try.ntmps11
      go_wp2_with fail
      refine k15.out.mono ?_
      rintro e w' ⟨rfl, rfl⟩
      go_wp2_with fail
      refine (f16_any _).mono ?_
      rintro e w6 ⟨rfl, hb6⟩
      have B6 := Lib.hid hb6
      clear hb6
      go_wp2_with fail
      go_ret
      exact ⟨rfl, B6.out⟩
    · by_cases t2 : n < 1
      · clear h
        go_enter Try.func11, Try.ntmps11
        go_wp2_with fail
        refine k15.out.mono ?_
        rintro e w' ⟨rfl, rfl⟩
        go_wp2_with fail
        refine (f16_any _).mono ?_
        rintro e w6 ⟨rfl, hb6⟩
        have B6 := Lib.hid hb6
        clear hb6
        go_wp2_with fail
        go_ret
        exact ⟨rfl, B6.out⟩
      · have t3 : 20 < n := by omega
        clear h
        go_enter Try.func11, Try.ntmps11
        go_wp2_with fail
        refine k15.out.mono ?_
        rintro e w' ⟨rfl, rfl⟩
        go_wp2_with fail
        refine (f16_any _).mono ?_
        rintro e w6 ⟨rfl, hb6⟩
        have B6 := Lib.hid hb6
        clear hb6
        go_wp2_with fail
        go_ret
        exact ⟨rfl, B6.out⟩
set_option maxRecDepth 100000 in
set_option maxHeartbeats 8000000 in
/-- dibberlaw05.LuckWinnows -/
theorem f11_yes (n : Nat) (A B : Option Addr) (k c m d : Nat) (said : List (List Int)) (gs : List Int) (w : World) (hs : Came2 w A k said) (hg : Octets w B m gs) (hf : fewB (said.map List.length) 0 = true) (hm : m ≤ 20) (hn1 : 1 ≤ n) (hn : n ≤ 20) :
    Calls Try.prog 11 #[.int .i64 (n : Int), .slice A k c, .slice B m d] w fun e w' => e = .returned (.bool true) ∧ Below w.heap.size w w' := by
  have k15 := Lib.hid (f15_any A none c k 0 0 _ w hs.1 (by omega))
  rw [hf] at k15
  have hS := hs.ints hf
  have HS := Lib.hid hS
  have hk250 : k ≤ 250 := by have := (fewB_facts hf).1; rw [List.length_map, hS.len] at this; exact this
  have HG := Lib.hid hg
  have HLEN := Lib.hid hS.len
  have hmk := make_bools n (by omega) w
  obtain ⟨w2, hw2⟩ : ∃ w2, w2 = w.alloc (.cells ((List.replicate n false).map Value.bool).toArray 4) := ⟨_, rfl⟩
  rw [← hw2] at hmk
  have O2 : Hid (OwnB w2 w.heap.size (List.replicate n false)) := by rw [hw2]; exact OwnB.made w n
  have B2 : Hid (Below w.heap.size w w2) := by rw [hw2]; exact below_alloc _ _
  have HZ2 : Hid (w2.heap.size = w.heap.size + 1) := by rw [hw2]; unfold Hid; simp
  clear hs hg hf hS hw2
  go_enter Try.func11, Try.ntmps11
  go_wp2_with fail
  refine k15.out.mono ?_
  rintro e w' ⟨rfl, rfl⟩
  go_wp2_with fail
  go_loopw [8, 9, 10] (fun r i _ wr => ∃ (q : Nat) (L : List Bool), q ≤ m ∧ i = .int .i64 (q : Int) ∧ r = .int .i64 (cntG gs n q : Int) ∧ OwnB wr w.heap.size L ∧ Hid (L.length = n ∧ ∀ f, f < n → L.getD f false = inG gs n q f) ∧ Below w.heap.size w wr ∧ w2.heap.size ≤ wr.heap.size) (fun _ i _ _ => m - (intOf i).toNat)
  case atStart => exact ⟨0, _, by omega, rfl, by
    have : cntG gs n 0 = 0 := by
      unfold cntG
      rw [sumN_congr (h := fun _ => 0) fun i _ => by rw [if_neg (by simp [inG])], sumN_const]; omega
    rw [this]; rfl, O2.out, ⟨by simp, fun f _ => falses n f⟩, B2.out, Nat.le_refl _⟩
  case round => as_aux_lemma =>
    obtain ⟨q, L, hq, rfl, rfl, hown, hL, hbel, hsz⟩ := hrel
    have HO := Lib.hid hown
    have HB := Lib.hid hbel
    have hcl := cntG_le gs n q
    by_cases hlt : q < m
    · obtain ⟨b, off, rfl, hc⟩ := HG.out.1 (by omega)
      have hc := (hbel.cell (lt_of_cell (hc q hlt))).trans (hc q hlt)
      obtain ⟨x0, x1⟩ := HG.out.2.1 q
      obtain ⟨X, hX⟩ := nat_of _ x0
      obtain ⟨u, hu⟩ : ∃ u, u = X % n := ⟨_, rfl⟩
      have hun : u < n := by rw [hu]; exact Nat.mod_lt _ (by omega)
      have htm : (X : Int).tmod (n : Int) = (u : Int) := by rw [hu]; rfl
      have hst := Lib.hid (cntG_step (gs := gs) (n := n) (q := q) (by omega))
      have hin : Hid (∀ f, inG gs n (q + 1) f = (inG gs n q f || decide (u = f))) := fun f => by rw [hu]; show (_ || decide ((gs.getD q 0).toNat % n = f)) = _; rw [hX, Int.toNat_natCast]
      rw [hX] at hc x1
      have hXu : (gs.getD q 0).toNat % n = u := by rw [hX, Int.toNat_natCast, hu]
      rw [hXu] at hst
      have hcb := hown.cell u (by rw [hL.out.1]; exact hun)
      have hfz := hown.frozen u
      rw [hL.out.2 u hun] at hcb
      have hset : Hid ((L.set u true).length = n ∧ ∀ f, f < n → (L.set u true).getD f false = inG gs n (q + 1) f) := ⟨by rw [List.length_set]; exact hL.out.1, fun f hf => by
        rw [getB_set _ _ _ _ (by rw [hL.out.1]; exact hun), hin.out f]
        by_cases h : f = u
        · subst h; rw [if_pos rfl, decide_eq_true rfl, Bool.or_true]
        · rw [if_neg h, hL.out.2 f hf, decide_eq_false (fun e => h e.symm), Bool.or_false]⟩
      have hu0 : (0 : Int) ≤ (u : Int) := by omega
      have hun2 : (u : Int) < (n : Int) := by omega
      have wX : IntKind.i64.wrap (X : Int) = (X : Int) := IntWalk.i64_in _ (by omega)
      have wu : IntKind.i64.wrap (u : Int) = (u : Int) := IntWalk.i64_in _ (by omega)
      generalize cntG gs n q = v at *
      clear hX hu hXu hown hbel hin x0
      cases hb : inG gs n q u
      · rw [hb] at hcb hst
        rw [if_neg (by decide)] at hst
        clear hb
        go_wp2
        go_roundw
        case rel => exact ⟨q + 1, _, by omega, by go_num, by rw [hst.out]; go_num, HO.out.set_ u true, hset, HB.out.setCell (Nat.le_refl _) _, by simp; omega⟩
        case measure => simp [intOf]; omega
      · rw [hb] at hcb hst
        rw [if_pos rfl] at hst
        clear hb
        go_wp2
        go_roundw
        case rel => exact ⟨q + 1, _, by omega, by go_num, by rw [hst.out]; rfl, HO.out.set_ u true, hset, HB.out.setCell (Nat.le_refl _) _, by simp; omega⟩
        case measure => simp [intOf]; omega
    · obtain rfl : q = m := by omega
      obtain ⟨G, hG⟩ : ∃ G, G = inG gs n q := ⟨_, rfl⟩
      have HR : Hid (cntG gs n q = sumN (fun f => if G f = true then 1 else 0) n) := by rw [hG]; rfl
      have hLG : Hid (L.length = n ∧ ∀ f, f < n → L.getD f false = G f) := by rw [hG]; exact hL
      generalize cntG gs n q = r at *
      obtain ⟨wq, rfl⟩ : ∃ wq : World, wq = wr := ⟨_, rfl⟩
      clear hL hG hown hbel
      go_wp2_with fail
      go_loopw [11, 12, 13, 14] (fun v i _ _ wr => ∃ t : Nat, t ≤ k ∧ i = .int .i64 (t : Int) ∧ Row wr wq.heap.size v (cameL said G n t) ∧ Below wq.heap.size wq wr) (fun _ i _ _ _ => k - (intOf i).toNat)
      case atStart => exact ⟨0, by omega, rfl, Row.nil _ _, Below.refl _ _⟩
      case round => as_aux_lemma =>
        obtain ⟨t, ht, rfl, hrow, hbel⟩ := hrel
        have HRW := Lib.hid hrow
        have HBT := Lib.hid hbel
        have hszt := hbel.size
        by_cases hlt2 : t < k
        · obtain ⟨b, off, rfl, D, e, hcr, hi⟩ := HS.out.at_ hlt2
          have hcr := (HB.out.cell (lt_of_cell hcr)).trans hcr
          have hcr := (hbel.cell (lt_of_cell hcr)).trans hcr
          have hi2 := (hi.below HB.out).below hbel
          have HI := Lib.hid hi2
          have hob := HO.out.below' hbel
          have HOB := Lib.hid hob
          have hst := Lib.hid (cameL_succ said G n t)
          have hll : Hid ((cameL said G n t).length ≤ 1000000) := by rw [cameL_len]; unfold Hid; omega
          have hrl := hi2.small
          have HCUT : Hid (∀ u, u ≤ n → (said.getD t []).length ≤ u → hasTo (said.getD t []) G n = hasTo (said.getD t []) G u) := fun u h1 h2 => hasTo_cut h1 h2
          have HST : Hid (∀ u, hasTo (said.getD t []) G (u + 1) = if G u = true ∧ (said.getD t []).getD u 0 = 1 then 1 else hasTo (said.getD t []) G u) := fun u => rfl
          have HBIT := Lib.hid (hasTo_bit (said.getD t []) G)
          have HZ0 : Hid (hasTo (said.getD t []) G 0 = 0) := rfl
          obtain ⟨F, hF⟩ : ∃ F, F = hasTo (said.getD t []) G := ⟨_, rfl⟩
          rw [← hF] at hst HCUT HST HBIT HZ0
          obtain ⟨wt, rfl⟩ : ∃ wt : World, wt = wr := ⟨_, rfl⟩
          have t0 : (0 : Int) ≤ (t : Int) := by omega
          have tk : (t : Int) < (k : Int) := by omega
          generalize hrow2 : said.getD t [] = row at *
          clear hrow hbel hi hi2 hob hF hrow2
          go_wp2_with fail
          go_loop [13, 14] (fun x j => ∃ u : Nat, u ≤ n ∧ u ≤ row.length ∧ j = .int .i64 (u : Int) ∧ x = .int .i64 (F u)) (fun _ j => n - (intOf j).toNat)
          case atStart => exact ⟨0, by omega, by omega, rfl, by rw [HZ0.out]⟩
          case round => as_aux_lemma =>
            obtain ⟨u, hu1, hu2, rfl, rfl⟩ := hrel
            have htest : (u < n ∧ u < row.length) ∨ ¬ u < n ∨ (u < n ∧ ¬ u < row.length) := by omega
            rcases htest with ⟨s1, s2⟩ | s1 | ⟨s1, s2⟩
            · obtain ⟨bD, oD, rfl, hcd⟩ := HI.out.at_ s2
              have hcb := HOB.out.cell u (by rw [hLG.out.1]; exact s1)
              rw [hLG.out.2 u s1] at hcb
              have hstu := Lib.hid (HST.out u)
              generalize row.getD u 0 = y at *
              have u0 : (0 : Int) ≤ (u : Int) := by omega
              have un : (u : Int) < (n : Int) := by omega
              have ul : (u : Int) < (row.length : Int) := by omega
              cases hGu : G u
              · rw [hGu] at hcb hstu
                rw [if_neg (fun h => by cases h.1)] at hstu
                clear hGu
                go_wp2
                go_round
                case rel => exact ⟨u + 1, by omega, by omega, by go_num, by rw [hstu.out]⟩
                case measure => simp [intOf]; omega
              · rw [hGu] at hcb hstu
                clear hGu
                by_cases hy : y = 1
                · have hq2 : (y == 1) = true := by simpa using hy
                  rw [if_pos ⟨rfl, hy⟩] at hstu
                  clear hy
                  go_wp2
                  go_round
                  case rel => exact ⟨u + 1, by omega, by omega, by go_num, by rw [hstu.out]⟩
                  case measure => simp [intOf]; omega
                · have hq2 : (y == 1) = false := by simpa using hy
                  rw [if_neg (fun h => hy h.2)] at hstu
                  clear hy
                  go_wp2
                  go_round
                  case rel => exact ⟨u + 1, by omega, by omega, by go_num, by rw [hstu.out]⟩
                  case measure => simp [intOf]; omega
            all_goals
              have hx : Hid (F n = F u) := by
                first
                  | exact HCUT.out u hu1 (by omega)
                  | (obtain rfl : u = n := by omega
                     exact rfl)
              rw [hx.out] at hst
              generalize F u = x at *
              go_wp2_with (at_builtin; refine wpList_push rfl (.tmp 94) (.tmp 96) rfl wq.heap.size _ (cameL said G n t) rfl (HRW.out.alloc _) wt.heap.size 1 x rfl (cell_new wt _ 3 0) hll.out (by simp; omega) ?_; intro v2 w4 hr4 hg4)
              rw [hst.out] at hr4
              have B4 : Hid (Below wq.heap.size wq w4) := below_grown (HBT.out.alloc hszt _) hg4 (by simp; omega) (HRW.out.alloc _) (Nat.le_refl _)
              have R4 := Lib.hid hr4
              clear hr4 hg4
              go_wp2_with fail
              go_roundw
              case rel => exact ⟨t + 1, by omega, by go_num, R4.out, B4.out⟩
              case measure => simp [intOf]; omega
        · obtain rfl : t = k := by omega
          obtain ⟨A2, c2, rfl, hi2, hn2⟩ := hrow.form4 (by rw [cameL_len]; omega)
          rw [cameL_len] at hi2 hn2 ⊢
          have HI := Lib.hid hi2
          have HBX := Lib.hid (below_step HB.out hbel)
          have HSX := Lib.hid (HS.out.below HBX.out)
          have k42 := Lib.hid (f42_any A A2 n t c t c2 said (cameL said G n t) wr HSX.out hi2)
          have k35 := Lib.hid (fun W h1 h2 => f35_any A A2 n t c t c2 said (cameL said G n t) W h1 h2)
          have hre := recErr_in n said (cameL said G n t)
          by_cases h0 : recErr n said (cameL said G n t) = 0
          · have e1 : tellN (n : Int) said (cameL said G n t) = toldL (winF said (cameL said G n t) n) t := by unfold tellN; rw [if_pos h0, Int.toNat_natCast, HLEN.out]
            have hlaw : Hid (∀ h, n ≤ 2 ^ h → missTo (toldL (winF said (cameL said G n t) n) t) (cameL said G n t) t ≤ 2 + 3 * r * (1 + h)) := fun h hh => winnows_law h0 HLEN.out hh HR.out
            have htl := toldL_len (winF said (cameL said G n t) n) t
            rw [e1, h0] at k42
            have HTL := Lib.hid htl
            generalize toldL (winF said (cameL said G n t) n) t = T at *
            have HML := Lib.hid (missTo_le T (cameL said G n t) t)
            clear hrow hbel hi2 hn2 h0 e1 htl hre k35
            go_wp2_with fail
            refine k42.out.mono ?_
            rintro e w5 ⟨A3, k3, c3, rfl, hi3, hb⟩
            have hk3 : k3 = t := by have := hi3.len; have := HTL.out; omega
            subst hk3
            have K36 := Lib.hid (fun x => f36_any A3 A2 k3 c3 c2 T (cameL said G n k3) (w5.drewN x) (hi3.drewN x) ((HI.out.below hb).drewN x))
            have B5 := Lib.hid (below_step HBX.out hb)
            generalize missTo T (cameL said G n k3) k3 = M at *
            have hM := HML.out
            clear hi3 hb HML
            go_wp2_with fail
            go_loop [17] (fun h => ∃ H : Nat, H ≤ 5 ∧ h = .int .i64 (H : Int)) (fun h => 6 - (intOf h).toNat)
            case atStart => exact ⟨0, by omega, rfl⟩
            case round => as_aux_lemma =>
              obtain ⟨H, hH, rfl⟩ := hrel
              obtain ⟨P, hP, hshl⟩ := shl_one H (by omega)
              have h0 : (0 : Int) ≤ (H : Int) := by omega
              have h5 : (H : Int) ≤ 5 := by omega
              by_cases hlt3 : P < n
              · have hH4 : H ≤ 4 := by
                  rcases Nat.lt_or_ge 4 H with h | h
                  · have : 2 ^ 5 ≤ 2 ^ H := Nat.pow_le_pow_right (by omega) (by omega)
                    omega
                  · exact h
                have hPn : (P : Int) < (n : Int) := by omega
                clear hP
                go_wp2
                go_round
                case rel => exact ⟨H + 1, by omega, by go_num⟩
                case measure => simp [intOf]; omega
              · have hlw := hlaw.out H (by omega)
                have hPn : ¬ (P : Int) < (n : Int) := by omega
                obtain ⟨R3, hR3⟩ : ∃ R3, R3 = 3 * r := ⟨_, rfl⟩
                rw [← hR3] at hlw
                have hR32 : R3 ≤ 60 := by omega
                have hRH : R3 * (1 + H) ≤ 60 * 6 := Nat.mul_le_mul hR32 (by omega)
                obtain ⟨Q, hQ⟩ : ∃ Q, Q = R3 * (1 + H) := ⟨_, rfl⟩
                rw [← hQ] at hlw hRH
                have w3 : IntKind.i64.wrap (3 * (r : Int)) = (R3 : Int) := by rw [IntWalk.i64_in _ (by omega)]; omega
                have w1H : IntKind.i64.wrap (1 + (H : Int)) = ((1 + H : Nat) : Int) := by rw [IntWalk.i64_in _ (by omega)]; simp
                have wQ : IntKind.i64.wrap ((R3 : Int) * ((1 + H : Nat) : Int)) = (Q : Int) := by
                  have : (R3 : Int) * ((1 + H : Nat) : Int) = (Q : Int) := by rw [hQ, Int.natCast_mul]
                  rw [this]; exact IntWalk.i64_in _ (by omega)
                have wQ2 : IntKind.i64.wrap (2 + (Q : Int)) = 2 + (Q : Int) := IntWalk.i64_in _ (by omega)
                have hMQ : (M : Int) ≤ 2 + (Q : Int) := by omega
                obtain ⟨H1, hH1⟩ : ∃ H1, H1 = 1 + H := ⟨_, rfl⟩
                rw [← hH1] at w1H wQ
                clear hP hR3 hQ hlw hH1
                go_wp2_with fail
                refine (K36.out 0).mono ?_
                rintro e w6 ⟨rfl, d1, rfl⟩
                have B6 : Hid (Below w.heap.size w (w5.drewN d1)) := below_drewN B5.out d1
                go_wp2_with fail
                refine (f16_any _).mono ?_
                rintro e w7 ⟨rfl, hb7⟩
                have B7 := Lib.hid (below_step B6.out hb7)
                clear hb7
                go_wp2_with fail
                go_ret
                exact ⟨rfl, B7.out⟩
          · have e1 : tellN (n : Int) said (cameL said G n t) = [] := by unfold tellN; rw [if_neg h0]
            rw [e1] at k42
            generalize recErr n said (cameL said G n t) = er at *
            have hq : (er != 0) = true := by simpa using h0
            have hq2 : (er == er) = true := by simp
            clear hrow hbel hi2 hn2 h0 e1
            go_wp2_with fail
            refine k42.out.mono ?_
            rintro e w5 ⟨A3, k3, c3, rfl, hi3, hb⟩
            have hk3 : k3 = 0 := by have := hi3.len; simpa using this.symm
            subst hk3
            have B5 := Lib.hid (below_step HBX.out hb)
            have K35 := Lib.hid (k35.out w5 (HSX.out.below hb) (HI.out.below hb))
            clear hi3 hb
            go_wp2_with fail
            refine K35.out.mono ?_
            rintro e w6 ⟨rfl, rfl⟩
            go_wp2_with fail
            refine (f16_any _).mono ?_
            rintro e w7 ⟨rfl, hb7⟩
            have B7 := Lib.hid (below_step B5.out hb7)
            clear hb7
            go_wp2_with fail
            go_ret
            exact ⟨rfl, B7.out⟩
/-- dibberlaw05.LuckWinnows -/
theorem f11_any (n : Int) (A B : Option Addr) (k c m d : Nat) (said : List (List Int)) (gs : List Int) (w : World) (hs : Came2 w A k said) (hg : Octets w B m gs) :
    Calls Try.prog 11 #[.int .i64 n, .slice A k c, .slice B m d] w fun e w' => e = .returned (.bool true) ∧ Below w.heap.size w w' := by
  by_cases h : fewB (said.map List.length) 0 = false ∨ 20 < m ∨ n < 1 ∨ 20 < n
  · exact f11_no n A B k c m d said w hs hg.2.2 h
  · obtain ⟨N, rfl⟩ := nat_of n (by omega)
    exact f11_yes N A B k c m d said gs w hs hg (by
      cases hf : fewB (said.map List.length) 0
      · exact absurd (.inl hf) h
      · rfl) (by omega) (by omega) (by omega)
end Go.Proofs.Ytfaenbaaadjbbaa
