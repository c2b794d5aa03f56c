/- Walk: LuckNovikoff. Walk: LuckNovikoff, the main way. Walk: LuckNovikoff, whatever the input. -/
import Derived.Test.YtfaenbaaadjbbaaW51
import Derived.Test.YtfaenbaaadjbbaaM1
import Derived.Test.YtfaenbaaadjbbaaPlain18
namespace Go.Proofs.Ytfaenbaaadjbbaa
open Go.RowKit

/-- What is known of what Perceptron returns. -/
theorem nov_facts {pts : List (List Int)} {signs : List Int} {R : Int} (h : pcE pts signs R = 0) (hR : R ≤ 100 ∨ 1000 < R) :
    ∃ M : Nat, pcM pts signs R = M ∧ 1 ≤ M ∧ M ≤ 5000 ∧ ptErr pts signs = 0 ∧ (pcW pts signs R).length = (pts.getD 0 []).length ∧ (∀ j, -500000 ≤ (pcW pts signs R).getD j 0 ∧ (pcW pts signs R).getD j 0 ≤ 500000)
      ∧ (∀ j, j < pts.length → 0 < signs.getD j 0 * dotTo (pts.getD j []) (pcW pts signs R) (pts.getD 0 []).length)
      ∧ ∀ (u : List Int) (mg most : Int), 0 ≤ mg → (∀ j, j < pts.length → mg ≤ signs.getD j 0 * dotTo (pts.getD j []) u (pts.getD 0 []).length) → (∀ j, j < pts.length → dotTo (pts.getD j []) (pts.getD j []) (pts.getD 0 []).length ≤ most) → (M : Int) * (mg * mg) ≤ most * dotTo u u (pts.getD 0 []).length := by
  have e0 : ptErr pts signs = 0 := by
    by_cases e : ptErr pts signs = 0
    · exact e
    · rw [pcE_pts e] at h; exact h
  have hw : pcW pts signs R = (runs pts signs (pts.getD 0 []).length ((calmAt pts signs (pts.getD 0 []).length R.toNat).getD 0 + 1)).1 := by unfold pcW; rw [if_pos h]
  have hm : pcM pts signs R = (runs pts signs (pts.getD 0 []).length ((calmAt pts signs (pts.getD 0 []).length R.toNat).getD 0 + 1)).2 := by unfold pcM; rw [if_pos h]
  unfold pcE at h
  rw [if_pos e0] at h
  split at h
  · rename_i hR1
    split at h
    · rename_i hs
      obtain ⟨r, hr⟩ := Option.isSome_iff_exists.1 hs
      rw [hr] at hw hm
      simp only [Option.getD_some] at hw hm
      obtain ⟨hr1, hr2⟩ := calm_spec hr
      obtain ⟨f1, f2, f3, f4, f5, f6, f7⟩ := pts_facts e0
      obtain ⟨g1, g2⟩ := calm_same hr2
      have hh := Held.runs (pts := pts) (signs := signs) (d := (pts.getD 0 []).length) (r + 1) f7 (fun k hk => (f6 k hk).2)
      have hup := runs_up pts signs (pts.getD 0 []).length r
      have hone := runs_one pts signs (pts.getD 0 []).length (by omega)
      have hr100 : r + 1 ≤ 100 := by omega
      have hb : (r + 1) * pts.length ≤ 100 * 50 := Nat.mul_le_mul hr100 f2
      refine ⟨(runs pts signs (pts.getD 0 []).length (r + 1)).2, hm, by omega, by have := hh.2.1; omega, e0, by rw [hw]; exact hh.1, fun j => ?_, by rw [hw]; exact g2, fun u mg most h1 h2 h3 => ?_⟩
      · rw [hw]
        have := hh.2.2 j
        have := hh.2.1
        omega
      · exact novikoff (r + 1) h1 f7 h2 h3 (by omega)
    · exact absurd h (by decide)
  · exact absurd h (by decide)
set_option maxRecDepth 100000 in
set_option maxHeartbeats 4000000 in
theorem f13_no (A B D : Option Addr) (k c m d l e : Nat) (R : Int) (said : List (List Int)) (w : World) (hs : Came2 w A k said) (hm : m ≤ 9223372036854775807) (hl : l ≤ 9223372036854775807) (h : fewB (said.map List.length) m = false ∨ 100 < k ∨ 40 < l ∨ (100 < R ∧ R ≤ 1000)) :
    Calls Try.prog 13 #[.slice A k c, .slice B m d, .slice D l e, .int .i64 R] w fun e w' => e = .returned (.bool true) ∧ Below w.heap.size w w' := by
  have k15 := Lib.hid (f15_any A B c k m d _ w hs.1 hm)
  have hk := hs.1.2.1
  have hcase : fewB (said.map List.length) m = false ∨ (fewB (said.map List.length) m = true ∧ 100 < k) ∨ (fewB (said.map List.length) m = true ∧ ¬ 100 < k ∧ 40 < l) ∨ (fewB (said.map List.length) m = true ∧ ¬ 100 < k ∧ ¬ 40 < l ∧ 100 < R ∧ R ≤ 1000) := by
    cases hf : fewB (said.map List.length) m
    · exact .inl rfl
    · rw [hf] at h
      have h := h.resolve_left (by decide)
      by_cases a1 : 100 < k
      · exact .inr (.inl ⟨rfl, a1⟩)
      · by_cases a2 : 40 < l
        · exact .inr (.inr (.inl ⟨rfl, a1, a2⟩))
        · exact .inr (.inr (.inr ⟨rfl, a1, a2, by omega, by omega⟩))
  clear h
  rcases hcase with hf | ⟨hf, t1⟩ | ⟨hf, t1, t2⟩ | ⟨hf, t1, t2, t3, t4⟩
  all_goals
    rw [hf] at k15
    clear hs hf
    go_enter Try.func13, Try.ntmps13
    go_wp2_with fail
    refine k15.out.mono ?_
    rintro e w' ⟨rfl, rfl⟩
    go_wp2_with fail
    refine (f16_any _).mono ?_
    rintro e w6 ⟨rfl, hb6⟩
    have B6 := Lib.hid hb6
    clear hb6
    go_wp2_with fail
    go_ret
    exact ⟨rfl, B6.out⟩
set_option maxRecDepth 100000 in
set_option maxHeartbeats 4000000 in
theorem f13_err (A B D : Option Addr) (k c m d l e : Nat) (R : Int) (said : List (List Int)) (signs : List Int) (w : World) (hs : Came2 w A k said) (ho : Came w B m signs) (hf : fewB (said.map List.length) m = true) (hk : k ≤ 100) (hl : l ≤ 40) (hR : R ≤ 100 ∨ 1000 < R) (h0 : pcE said signs R ≠ 0) :
    Calls Try.prog 13 #[.slice A k c, .slice B m d, .slice D l e, .int .i64 R] w fun e w' => e = .returned (.bool true) ∧ Below w.heap.size w w' := by
  have k15 := Lib.hid (f15_any A B c k m d _ w hs.1 ho.len)
  rw [hf] at k15
  have k43 := Lib.hid (f43_any A B k c m d R said signs w (hs.ints hf) (ho.2 (by have := (fewB_facts hf).2.2; omega)))
  obtain ⟨e1, e2⟩ := pc_bad h0 rfl
  rw [e1, e2] at k43
  generalize pcE said signs R = E at *
  have hq : (E != 0) = true := by simpa using h0
  have hml := ho.len
  clear hs ho hf h0 e1 e2
  rcases hR with hR | hR
  all_goals
    go_enter Try.func13, Try.ntmps13
    go_wp2_with fail
    refine k15.out.mono ?_
    rintro e w' ⟨rfl, rfl⟩
    go_wp2_with fail
    refine k43.out.mono ?_
    rintro e w1 ⟨A1, k1, c1, rfl, hi1, hb⟩
    have hk1 : k1 = 0 := by have := hi1.len; simpa using this.symm
    subst hk1
    have B1 := Lib.hid hb
    clear hi1 hb
    go_wp2_with fail
    refine (f16_any _).mono ?_
    rintro e w6 ⟨rfl, hb6⟩
    have B6 := Lib.hid (below_step B1.out hb6)
    clear hb6
    go_wp2_with fail
    go_ret
    exact ⟨rfl, B6.out⟩
end Go.Proofs.Ytfaenbaaadjbbaa

namespace Go.Proofs.Ytfaenbaaadjbbaa
open Go.RowKit

theorem sq_small {x : Int} (h : -10000 ≤ x ∧ x ≤ 10000) : 0 ≤ x * x ∧ x * x ≤ 100000000 := by
  have h1 := Int.mul_nonneg (show 0 ≤ 10000 - x by omega) (show 0 ≤ 10000 + x by omega)
  have e : (10000 - x) * (10000 + x) = 100000000 - x * x := by grind
  have h2 := sq_nn x
  omega
theorem small63 {n : Nat} (h : n ≤ 9223372036854775807) : n < D10 ^ 400 := by
  have e : D10 ^ 5 = 100000000000000000000 := by decide
  have h2 : ∀ i j, i < j → D10 ^ i < D10 ^ j := fun i j h => Nat.pow_lt_pow_right (by decide) h
  have h3 := h2 5 400 (by omega)
  omega
set_option maxRecDepth 100000 in
set_option maxHeartbeats 8000000 in
theorem f13_main (A B D : Option Addr) (n c d l e : Nat) (R : Int) (pts : List (List Int)) (signs us : List Int) (w : World) (hs : Came2 w A n pts) (ho : Came w B n signs) (hu : Came w D l us) (hf : fewB (pts.map List.length) n = true) (hk : n ≤ 100) (hl : l ≤ 40) (hR : R ≤ 100) (h0 : pcE pts signs R = 0) :
    Calls Try.prog 13 #[.slice A n c, .slice B n d, .slice D l e, .int .i64 R] w fun e w' => e = .returned (.bool true) ∧ Below w.heap.size w w' := by
  have k15 := Lib.hid (f15_any A B c n n d _ w hs.1 ho.len)
  rw [hf] at k15
  have HS := Lib.hid (hs.ints hf)
  have HO := Lib.hid (ho.2 (by have := (fewB_facts hf).2.2; omega))
  have HU := Lib.hid (hu.2 (by omega))
  have k43 := Lib.hid (f43_any A B n c n d R pts signs w HS.out HO.out)
  have k45 := Lib.hid (fun W h1 h2 => f45_any A B n c n d pts signs W h1 h2)
  obtain ⟨M, hM, hM1, hM2, hpe, hWl, hWb, hsep, hnov⟩ := nov_facts h0 (.inl hR)
  obtain ⟨f1, f2, f3, f4, f5, f6, f7⟩ := pts_facts hpe
  rw [h0, hM] at k43
  rw [hpe] at k45
  have hkl := HS.out.len
  obtain ⟨L, hL⟩ : ∃ L, L = (pts.getD 0 []).length := ⟨_, rfl⟩
  rw [← hL] at f3 f4 hWl hsep hnov
  have HROW : Hid (∀ i, i < n → (pts.getD i []).length = L ∧ ∀ j, -100 ≤ (pts.getD i []).getD j 0 ∧ (pts.getD i []).getD j 0 ≤ 100) := fun i hi => by rw [hL]; exact f6 i (by omega)
  have HSG : Hid (∀ i, i < n → signs.getD i 0 = 1 ∨ signs.getD i 0 = -1) := fun i hi => f7 i (by omega)
  generalize pcW pts signs R = W at *
  have HSEP : Hid (∀ i, i < n → 0 < signs.getD i 0 * dotTo (pts.getD i []) W L) := fun i hi => hsep i (by omega)
  have HNOV : Hid (∀ (mg most : Int), 0 ≤ mg → (∀ j, j < n → mg ≤ signs.getD j 0 * dotTo (pts.getD j []) us L) → (∀ j, j < n → dotTo (pts.getD j []) (pts.getD j []) L ≤ most) → (M : Int) * (mg * mg) ≤ most * dotTo us us L) := fun mg most h1 h2 h3 => hnov us mg most h1 (fun j hj => h2 j (by omega)) (fun j hj => h3 j (by omega))
  have HWB := Lib.hid hWb
  have HWL := Lib.hid hWl
  have hn1 : 1 ≤ n := by omega
  have hn50 : n ≤ 50 := by omega
  obtain ⟨b0, o0, rfl, D0, e0, hc0, hi0⟩ := HS.out.at_ (show 0 < n by omega)
  rw [(HROW.out 0 (by omega)).1] at hc0
  have HC0 := Lib.hid hc0
  have hlN := hu.len
  clear hs ho hu hf h0 hM hpe hWl hWb hsep hnov f1 f2 f5 f6 f7 hkl hL hc0 hi0
  go_enter Try.func13, Try.ntmps13
  go_wp2_with fail
  refine k15.out.mono ?_
  rintro e w' ⟨rfl, rfl⟩
  go_wp2_with fail
  refine k43.out.mono ?_
  rintro e w1 ⟨A1, k1, c1, rfl, hi1, hb⟩
  have hk1 : k1 = L := by have := hi1.len; have := HWL.out; omega
  subst hk1
  have B1 := Lib.hid hb
  have I1 := Lib.hid hi1
  have k45 := Lib.hid (k45.out w1 (HS.out.below hb) (HO.out.below hb))
  have hc0 := (hb.cell (lt_of_cell HC0.out)).trans HC0.out
  simp only [Nat.add_zero] at hc0
  clear hi1 hb
  go_wp2_with fail
  refine k45.out.mono ?_
  rintro e w' ⟨rfl, rfl⟩
  go_wp2_with fail
  go_loopw [12] (fun i wr => ∃ q : Nat, q ≤ n ∧ i = .int .i64 (q : Int) ∧ ∃ x, wr = w1.drewN x) (fun i _ => n - (intOf i).toNat)
  case atStart => exact ⟨0, by omega, rfl, 0, rfl⟩
  case round => as_aux_lemma =>
    obtain ⟨q, hq, rfl, x0, rfl⟩ := hrel
    by_cases hlq : q < n
    · obtain ⟨b1, o1, hA1, D1, e1, hc, hi⟩ := (HS.out.below B1.out).at_ hlq
      injection hA1 with hA1
      injection hA1 with hA2 hA3
      subst hA2 hA3
      obtain ⟨b2, o2, rfl, hcs⟩ := (HO.out.below B1.out).at_ hlq
      obtain ⟨r1, r2⟩ := HROW.out q hlq
      have hsg := HSG.out q hlq
      have hsp := HSEP.out q hlq
      rw [r1] at hc hi
      have HC := Lib.hid hc
      have HCS := Lib.hid hcs
      have HI := Lib.hid hi
      generalize pts.getD q [] = p at *
      generalize signs.getD q 0 = g at *
      have HDOT : Hid (∀ t, t ≤ k1 → -300000000 ≤ dotTo p W t ∧ dotTo p W t ≤ 300000000) := fun t ht => by
        have := dot_small (B := 500000) r2 HWB.out t
        omega
      have HDS : Hid (∀ t, dotTo p W (t + 1) = dotTo p W t + p.getD t 0 * W.getD t 0) := fun t => rfl
      have HD0 : Hid (dotTo p W 0 = 0) := rfl
      have HPB := Lib.hid r2
      have HSP := Lib.hid hsp
      have hq0 : (0 : Int) ≤ (q : Int) := by omega
      have hqn : (q : Int) < (n : Int) := by omega
      clear hc hcs hi r1 r2 hsp
      go_wp2_with fail
      go_loopw [13, 14] (fun a i wr => ∃ t : Nat, t ≤ k1 ∧ i = .int .i64 (t : Int) ∧ a = .int .i64 (dotTo p W t) ∧ ∃ x, wr = w1.drewN x) (fun _ i _ => k1 - (intOf i).toNat)
      case atStart => exact ⟨0, by omega, rfl, by rw [HD0.out], x0, rfl⟩
      case round => as_aux_lemma =>
        obtain ⟨t, ht, rfl, rfl, x1, rfl⟩ := hrel
        obtain ⟨v1, v2⟩ := HDOT.out t ht
        by_cases hlt2 : t < k1
        · obtain ⟨b3, o3, rfl, hcp⟩ := HI.out.at_ hlt2
          obtain ⟨b4, o4, rfl, hcw⟩ := I1.out.at_ hlt2
          have hc1 := HC.out
          have hstt := Lib.hid (HDS.out t)
          have px := prod_small (HPB.out t) (HWB.out t)
          generalize dotTo p W t = a at *
          generalize p.getD t 0 = x at *
          generalize W.getD t 0 = y at *
          obtain ⟨px1, px2⟩ := px
          have w1' : IntKind.i64.wrap (x * y) = x * y := IntWalk.i64_in _ (by omega)
          have w2' : IntKind.i64.wrap (a + x * y) = a + x * y := IntWalk.i64_in _ (by omega)
          have ht0 : (0 : Int) ≤ (t : Int) := by omega
          have htL : (t : Int) < (k1 : Int) := by omega
          go_wp2
          go_quiet (fail)
          go_wp2
          go_roundw
          case rel => exact ⟨t + 1, by omega, by go_num, by rw [hstt.out], by first | exact ⟨_, rfl⟩ | exact ⟨_, World.drewN_drewN _ _ _⟩⟩
          case measure => simp [intOf]; omega
        · obtain rfl : t = k1 := by omega
          have hgs := sgn_mul hsg ⟨v1, v2⟩
          have hsp := HSP.out
          have hcs := HCS.out
          obtain ⟨z, hz⟩ : ∃ z, z = g * dotTo p W t := ⟨_, rfl⟩
          rw [← hz] at hgs hsp
          generalize dotTo p W t = S at *
          have wz : IntKind.i64.wrap (g * S) = z := by rw [← hz]; exact IntWalk.i64_in _ (by omega)
          have hz0 : ¬ z ≤ 0 := by omega
          clear hz
          go_wp2
          go_roundw
          case rel => exact ⟨q + 1, by omega, by go_num, _, rfl⟩
          case measure => simp [intOf]; omega
    · obtain rfl : q = n := by omega
      by_cases hlu : l = k1
      · subst hlu
        go_wp2_with fail
        go_loopw [16, 18] (fun a i wr => ∃ t : Nat, t ≤ l ∧ i = .int .i64 (t : Int) ∧ a = .int .i64 (dotTo us us t) ∧ Hid ((∀ j, j < t → -10000 ≤ us.getD j 0 ∧ us.getD j 0 ≤ 10000) ∧ 0 ≤ dotTo us us t ∧ dotTo us us t ≤ t * 100000000) ∧ ∃ x, wr = w1.drewN x) (fun _ i _ => l - (intOf i).toNat)
        case atStart => exact ⟨0, by omega, rfl, rfl, ⟨fun j hj => absurd hj (by omega), by simp [dot_zero], by simp [dot_zero]⟩, x0, rfl⟩
        case round => as_aux_lemma =>
          obtain ⟨t, ht, rfl, rfl, hin, x1, rfl⟩ := hrel
          by_cases hlt2 : t < l
          · obtain ⟨b4, o4, rfl, hcw⟩ := (HU.out.below B1.out).at_ hlt2
            have hstt : Hid (dotTo us us (t + 1) = dotTo us us t + us.getD t 0 * us.getD t 0) := rfl
            obtain ⟨g1, g2, g3⟩ := hin.out
            have HG := Lib.hid g1
            have hlast : Hid (∀ x, us.getD t 0 = x → -10000 ≤ x → x ≤ 10000 → ∀ j, j < t + 1 → -10000 ≤ us.getD j 0 ∧ us.getD j 0 ≤ 10000) := fun x hx h1 h2 j hj => by
              rcases Nat.lt_or_ge j t with h3 | h3
              · exact g1 j h3
              · obtain rfl : j = t := by omega
                omega
            have ht0 : (0 : Int) ≤ (t : Int) := by omega
            have htL : (t : Int) < (l : Int) := by omega
            have hget := Lib.hid (hlast.out (us.getD t 0) rfl)
            generalize dotTo us us t = a at *
            generalize us.getD t 0 = y at *
            clear g1 hlast hin
            by_cases hy1 : y < -10000
            · go_wp2_with fail
              have B2 := Lib.hid (below_drewN B1.out x1)
              refine (f16_any _).mono ?_
              rintro e w6 ⟨rfl, hb6⟩
              have B6 := Lib.hid (below_step B2.out hb6)
              clear hb6
              go_wp2_with fail
              go_ret
              exact ⟨rfl, B6.out⟩
            · by_cases hy2 : 10000 < y
              · go_wp2_with fail
                have B2 := Lib.hid (below_drewN B1.out x1)
                refine (f16_any _).mono ?_
                rintro e w6 ⟨rfl, hb6⟩
                have B6 := Lib.hid (below_step B2.out hb6)
                clear hb6
                go_wp2_with fail
                go_ret
                exact ⟨rfl, B6.out⟩
              · have hget2 := Lib.hid (hget.out (by omega) (by omega))
                obtain ⟨q1, q2⟩ := sq_small (x := y) ⟨by omega, by omega⟩
                have w1' : IntKind.i64.wrap (y * y) = y * y := IntWalk.i64_in _ (by omega)
                have w2' : IntKind.i64.wrap (a + y * y) = a + y * y := IntWalk.i64_in _ (by omega)
                have HFIN : Hid (0 ≤ a + y * y ∧ a + y * y ≤ ((t + 1 : Nat) : Int) * 100000000) := ⟨by omega, by omega⟩
                go_wp2
                go_quiet (fail)
                go_wp2
                go_roundw
                case rel => exact ⟨t + 1, by omega, by go_num, by rw [hstt.out], ⟨hget2.out, by rw [hstt.out]; exact HFIN.out.1, by rw [hstt.out]; exact HFIN.out.2⟩, by first | exact ⟨_, rfl⟩ | exact ⟨_, World.drewN_drewN _ _ _⟩⟩
                case measure => simp [intOf]; omega
          · obtain rfl : t = l := by omega
            have HUB : Hid (∀ j, -10000 ≤ us.getD j 0 ∧ us.getD j 0 ≤ 10000) := fun j => by
              rcases Nat.lt_or_ge j t with h3 | h3
              · exact hin.out.1 j h3
              · have e : us.getD j 0 = 0 := by rw [List.getD_eq_getElem?_getD, List.getElem?_eq_none (by have := HU.out.len; omega)]; rfl
                rw [e]; omega
            obtain ⟨sq, hsq⟩ := nat_of _ hin.out.2.1
            have hsqb : sq ≤ 4000000000 := by have := hin.out.2.2; omega
            have HSQ := Lib.hid hsq
            rw [hsq]
            clear hin hsq
            have HUB6 : Hid (∀ j, -500000 ≤ us.getD j 0 ∧ us.getD j 0 ≤ 500000) := fun j => by have := HUB.out j; omega
            clear HSEP HWB HWL
            go_wp2_with fail
            go_loopw [15, 17, 19] (fun mo mg i wr => ∃ (s MO : Nat) (G : Int), s ≤ q ∧ i = .int .i64 (s : Int) ∧ mo = .int .i64 (MO : Int) ∧ mg = .int .i64 G ∧ -1 ≤ G ∧ G ≤ 6000000 ∧ MO ≤ 60000 ∧ Hid ((∀ j, j < s → dotTo (pts.getD j []) (pts.getD j []) t ≤ MO) ∧ (G < 0 → s = 0) ∧ (0 < G → ∀ j, j < s → G ≤ signs.getD j 0 * dotTo (pts.getD j []) us t)) ∧ ∃ x, wr = w1.drewN x) (fun _ _ i _ => q - (intOf i).toNat)
            case atStart => exact ⟨0, 0, -1, by omega, rfl, rfl, rfl, by omega, by omega, by omega, ⟨fun j hj => absurd hj (by omega), fun _ => rfl, fun h => absurd h (by omega)⟩, x1, rfl⟩
            case round => as_aux_lemma =>
              obtain ⟨s, MO, G, hq, rfl, rfl, rfl, hG1, hG2, hMO, hin, x2, rfl⟩ := hrel
              by_cases hls : s < q
              · obtain ⟨b1, o1, hA1, D1, e1, hc, hi⟩ := (HS.out.below B1.out).at_ hls
                injection hA1 with hA1
                injection hA1 with hA2 hA3
                subst hA2 hA3
                obtain ⟨b2, o2, rfl, hcs⟩ := (HO.out.below B1.out).at_ hls
                obtain ⟨r1, r2⟩ := HROW.out s hls
                have hsg := HSG.out s hls
                rw [r1] at hc hi
                have HC := Lib.hid hc
                have HCS := Lib.hid hcs
                have HI := Lib.hid hi
                have HIN : Hid (∀ (MO' : Nat) (G' : Int), MO ≤ MO' → dotTo (pts.getD s []) (pts.getD s []) t ≤ MO' → 0 ≤ G' → (0 < G' → (G < 0 ∨ G' ≤ G) ∧ G' ≤ signs.getD s 0 * dotTo (pts.getD s []) us t) → ((∀ j, j < s + 1 → dotTo (pts.getD j []) (pts.getD j []) t ≤ MO') ∧ (G' < 0 → s + 1 = 0) ∧ (0 < G' → ∀ j, j < s + 1 → G' ≤ signs.getD j 0 * dotTo (pts.getD j []) us t))) := fun MO' G' h1 h2 h3 h4 => by
                  obtain ⟨i1, i2, i3⟩ := hin.out
                  refine ⟨fun j hj => ?_, fun h => by omega, fun h j hj => ?_⟩
                  · rcases Nat.lt_or_ge j s with h5 | h5
                    · have := i1 j h5; omega
                    · obtain rfl : j = s := by omega
                      exact h2
                  · obtain ⟨h6, h7⟩ := h4 h
                    rcases Nat.lt_or_ge j s with h5 | h5
                    · rcases h6 with h6 | h6
                      · have := i2 h6; omega
                      · have := i3 (by omega) j h5; omega
                    · obtain rfl : j = s := by omega
                      exact h7
                generalize pts.getD s [] = p at *
                generalize signs.getD s 0 = g at *
                have HDU : Hid (∀ t, t ≤ 6 → -6000000 ≤ dotTo p us t ∧ dotTo p us t ≤ 6000000) := fun t ht => by
                  have := dot_small (B := 10000) r2 HUB.out t
                  omega
                have HDP : Hid (∀ t, t ≤ 6 → 0 ≤ dotTo p p t ∧ dotTo p p t ≤ 60000) := fun t ht => by
                  have := dot_small (B := 100) r2 r2 t
                  have := dot_sq p t
                  omega
                have HUS : Hid (∀ t, dotTo p us (t + 1) = dotTo p us t + p.getD t 0 * us.getD t 0) := fun t => rfl
                have HPS : Hid (∀ t, dotTo p p (t + 1) = dotTo p p t + p.getD t 0 * p.getD t 0) := fun t => rfl
                have HD0 : Hid (dotTo p us 0 = 0 ∧ dotTo p p 0 = 0) := ⟨rfl, rfl⟩
                have HPB := Lib.hid r2
                have hq0 : (0 : Int) ≤ (s : Int) := by omega
                have hqn : (s : Int) < (q : Int) := by omega
                clear hc hcs hi r1 r2 hin
                go_wp2_with fail
                go_loopw [20, 21, 22] (fun a b i wr => ∃ k : Nat, k ≤ t ∧ i = .int .i64 (k : Int) ∧ a = .int .i64 (dotTo p us k) ∧ b = .int .i64 (dotTo p p k) ∧ ∃ x, wr = w1.drewN x) (fun _ _ i _ => t - (intOf i).toNat)
                case atStart => exact ⟨0, by omega, rfl, by rw [HD0.out.1], by rw [HD0.out.2], x2, rfl⟩
                case round => as_aux_lemma =>
                  obtain ⟨k, hk, rfl, rfl, rfl, x3, rfl⟩ := hrel
                  obtain ⟨v1, v2⟩ := HDU.out k (by omega)
                  obtain ⟨v3, v4⟩ := HDP.out k (by omega)
                  by_cases hlt2 : k < t
                  · obtain ⟨b3, o3, rfl, hcp⟩ := HI.out.at_ hlt2
                    obtain ⟨b4, o4, rfl, hcu⟩ := (HU.out.below B1.out).at_ hlt2
                    have hc1 := HC.out
                    have hst1 := Lib.hid (HUS.out k)
                    have hst2 := Lib.hid (HPS.out k)
                    have px := prod_small (HPB.out k) (HUB.out k)
                    have py := prod_small (HPB.out k) (HPB.out k)
                    generalize dotTo p us k = a at *
                    generalize dotTo p p k = b at *
                    generalize p.getD k 0 = x at *
                    generalize us.getD k 0 = y at *
                    obtain ⟨px1, px2⟩ := px
                    obtain ⟨py1, py2⟩ := py
                    have w1' : IntKind.i64.wrap (x * y) = x * y := IntWalk.i64_in _ (by omega)
                    have w2' : IntKind.i64.wrap (a + x * y) = a + x * y := IntWalk.i64_in _ (by omega)
                    have w3' : IntKind.i64.wrap (x * x) = x * x := IntWalk.i64_in _ (by omega)
                    have w4' : IntKind.i64.wrap (b + x * x) = b + x * x := IntWalk.i64_in _ (by omega)
                    have ht0 : (0 : Int) ≤ (k : Int) := by omega
                    have htL : (k : Int) < (t : Int) := by omega
                    go_wp2
                    go_quiet (fail)
                    go_wp2
                    go_quiet (fail)
                    go_wp2
                    go_roundw
                    case rel => exact ⟨k + 1, by omega, by go_num, by rw [hst1.out], by rw [hst2.out], by first | exact ⟨_, rfl⟩ | exact ⟨_, World.drewN_drewN _ _ _⟩⟩
                    case measure => simp [intOf]; omega
                  · obtain rfl : k = t := by omega
                    have hz := sgn_mul hsg ⟨v1, v2⟩
                    have hcs := HCS.out
                    obtain ⟨lp, hlp⟩ := nat_of _ v3
                    obtain ⟨z, hzz⟩ : ∃ z, z = g * dotTo p us k := ⟨_, rfl⟩
                    rw [← hzz] at hz
                    have HIN2 : Hid (∀ (MO' : Nat) (G' : Int), MO ≤ MO' → lp ≤ MO' → 0 ≤ G' → (0 < G' → (G < 0 ∨ G' ≤ G) ∧ G' ≤ z) → ((∀ j, j < s + 1 → dotTo (pts.getD j []) (pts.getD j []) k ≤ MO') ∧ (G' < 0 → s + 1 = 0) ∧ (0 < G' → ∀ j, j < s + 1 → G' ≤ signs.getD j 0 * dotTo (pts.getD j []) us k))) := fun MO' G' h1 h2 h3 h4 => HIN.out MO' G' h1 (by omega) h3 (fun h => by rw [← hzz]; exact h4 h)
                    rw [hlp] at v3 v4 ⊢
                    have HPL := Lib.hid hlp
                    generalize dotTo p us k = S at *
                    have wz : IntKind.i64.wrap (g * S) = z := by rw [← hzz]; exact IntWalk.i64_in _ (by omega)
                    obtain ⟨hz1, hz2⟩ := hz
                    clear hzz HIN hlp
                    have hcase : (G < 0) ∨ (¬ G < 0 ∧ z < G) ∨ (¬ G < 0 ∧ ¬ z < G) := by omega
                    by_cases c3 : lp ≤ MO
                    · skip
                      rcases hcase with d1 | ⟨d1, d2⟩ | ⟨d1, d2⟩
                      · by_cases c4 : z ≤ 0
                        · go_wp2
                          go_roundw
                          case rel => exact ⟨s + 1, MO, 0, by omega, by go_num, rfl, rfl, by omega, by omega, by omega, HIN2.out MO 0 (by omega) (by omega) (by omega) (fun h => ⟨by omega, by omega⟩), _, rfl⟩
                          case measure => simp [intOf]; omega
                        · have c5 : 0 < z := by omega
                          go_wp2
                          go_roundw
                          case rel => exact ⟨s + 1, MO, z, by omega, by go_num, rfl, rfl, by omega, by omega, by omega, HIN2.out MO z (by omega) (by omega) (by omega) (fun h => ⟨by omega, by omega⟩), _, rfl⟩
                          case measure => simp [intOf]; omega
                      · by_cases c4 : z ≤ 0
                        · go_wp2
                          go_roundw
                          case rel => exact ⟨s + 1, MO, 0, by omega, by go_num, rfl, rfl, by omega, by omega, by omega, HIN2.out MO 0 (by omega) (by omega) (by omega) (fun h => ⟨by omega, by omega⟩), _, rfl⟩
                          case measure => simp [intOf]; omega
                        · have c5 : 0 < z := by omega
                          go_wp2
                          go_roundw
                          case rel => exact ⟨s + 1, MO, z, by omega, by go_num, rfl, rfl, by omega, by omega, by omega, HIN2.out MO z (by omega) (by omega) (by omega) (fun h => ⟨by omega, by omega⟩), _, rfl⟩
                          case measure => simp [intOf]; omega
                      · go_wp2
                        go_roundw
                        case rel => exact ⟨s + 1, MO, G, by omega, by go_num, rfl, rfl, by omega, by omega, by omega, HIN2.out MO G (by omega) (by omega) (by omega) (fun h => ⟨by omega, by omega⟩), _, rfl⟩
                        case measure => simp [intOf]; omega
                    · skip
                      rcases hcase with d1 | ⟨d1, d2⟩ | ⟨d1, d2⟩
                      · by_cases c4 : z ≤ 0
                        · go_wp2
                          go_roundw
                          case rel => exact ⟨s + 1, lp, 0, by omega, by go_num, rfl, rfl, by omega, by omega, by omega, HIN2.out lp 0 (by omega) (by omega) (by omega) (fun h => ⟨by omega, by omega⟩), _, rfl⟩
                          case measure => simp [intOf]; omega
                        · have c5 : 0 < z := by omega
                          go_wp2
                          go_roundw
                          case rel => exact ⟨s + 1, lp, z, by omega, by go_num, rfl, rfl, by omega, by omega, by omega, HIN2.out lp z (by omega) (by omega) (by omega) (fun h => ⟨by omega, by omega⟩), _, rfl⟩
                          case measure => simp [intOf]; omega
                      · by_cases c4 : z ≤ 0
                        · go_wp2
                          go_roundw
                          case rel => exact ⟨s + 1, lp, 0, by omega, by go_num, rfl, rfl, by omega, by omega, by omega, HIN2.out lp 0 (by omega) (by omega) (by omega) (fun h => ⟨by omega, by omega⟩), _, rfl⟩
                          case measure => simp [intOf]; omega
                        · have c5 : 0 < z := by omega
                          go_wp2
                          go_roundw
                          case rel => exact ⟨s + 1, lp, z, by omega, by go_num, rfl, rfl, by omega, by omega, by omega, HIN2.out lp z (by omega) (by omega) (by omega) (fun h => ⟨by omega, by omega⟩), _, rfl⟩
                          case measure => simp [intOf]; omega
                      · go_wp2
                        go_roundw
                        case rel => exact ⟨s + 1, lp, G, by omega, by go_num, rfl, rfl, by omega, by omega, by omega, HIN2.out lp G (by omega) (by omega) (by omega) (fun h => ⟨by omega, by omega⟩), _, rfl⟩
                        case measure => simp [intOf]; omega
              · obtain rfl : s = q := by omega
                by_cases hG : G ≤ 0
                · have B2 := Lib.hid (below_drewN B1.out x2)
                  clear hin
                  go_wp2_with fail
                  refine (f16_any _).mono ?_
                  rintro e w6 ⟨rfl, hb6⟩
                  have B6 := Lib.hid (below_step B2.out hb6)
                  clear hb6
                  go_wp2_with fail
                  go_ret
                  exact ⟨rfl, B6.out⟩
                · obtain ⟨g, rfl⟩ := nat_of G (by omega)
                  obtain ⟨i1, i2, i3⟩ := hin.out
                  have hlaw : Hid (cmpN (M * (g * g)) (MO * sq) ≤ 0) := by
                    refine cmpN_le.2 ?_
                    have h1 := HNOV.out (g : Int) (MO : Int) (by omega) (fun j hj => i3 (by omega) j hj) (fun j hj => i1 j hj)
                    rw [HSQ.out] at h1
                    have h2 : ((M * (g * g) : Nat) : Int) ≤ ((MO * sq : Nat) : Int) := by simpa using h1
                    omega
                  have hg6 : g ≤ 6000000 := by omega
                  have q1 : g * g ≤ 6000000 * 6000000 := Nat.mul_le_mul hg6 hg6
                  have q2 : M * (g * g) ≤ 5000 * (6000000 * 6000000) := Nat.mul_le_mul hM2 q1
                  have q3 : MO * sq ≤ 60000 * 4000000000 := Nat.mul_le_mul hMO hsqb
                  have pM : Hid (M < D10 ^ 400) := small63 (by omega)
                  have pg : Hid (g < D10 ^ 400) := small63 (by omega)
                  have pgg : Hid (g * g < D10 ^ 400) := small63 (by omega)
                  have pMO : Hid (MO < D10 ^ 400) := small63 (by omega)
                  have psq : Hid (sq < D10 ^ 400) := small63 (by omega)
                  have B2 := Lib.hid (below_drewN B1.out x2)
                  generalize w1.drewN x2 = w2 at *
                  clear hin i1 i2 i3 q1 q2 q3
                  go_wp2_with fail
                  refine (f39_any M w2 (by omega)).mono ?_
                  rintro e w3 ⟨v3, rfl, hg3, hb3⟩
                  have G3 := Lib.hid hg3
                  have B3 := Lib.hid (below_step B2.out hb3)
                  clear hg3 hb3
                  go_wp2_with fail
                  refine (f39_any g w3 (by omega)).mono ?_
                  rintro e w4 ⟨v4, rfl, hg4, hb4⟩
                  have G4 := Lib.hid hg4
                  have G3 := Lib.hid (G3.out.below hb4)
                  have B4 := Lib.hid (below_step B3.out hb4)
                  clear hg4 hb4
                  go_wp2_with fail
                  refine (f39_any g w4 (by omega)).mono ?_
                  rintro e w5 ⟨v5, rfl, hg5, hb5⟩
                  have G5 := Lib.hid hg5
                  have G4 := Lib.hid (G4.out.below hb5)
                  have G3 := Lib.hid (G3.out.below hb5)
                  have B5 := Lib.hid (below_step B4.out hb5)
                  clear hg5 hb5
                  go_wp2_with fail
                  refine (f38_any v4 v5 _ _ _ _ w5 G4.out G5.out pg.out pg.out).mono ?_
                  rintro e w6 ⟨v6, rfl, hg6', hb6⟩
                  have G6 := Lib.hid hg6'
                  have G3 := Lib.hid (G3.out.below hb6)
                  have B6 := Lib.hid (below_step B5.out hb6)
                  clear hg6' hb6
                  go_wp2_with fail
                  refine (f38_any v3 v6 _ _ _ _ w6 G3.out G6.out pM.out pgg.out).mono ?_
                  rintro e w7 ⟨v7, rfl, hg7, hb7⟩
                  obtain ⟨A7, ds7, c7, rfl, -⟩ := hg7.form
                  have G7 := Lib.hid hg7
                  have B7 := Lib.hid (below_step B6.out hb7)
                  generalize ds7.length = k7 at *
                  clear hg7 hb7
                  obtain ⟨w8, hw8⟩ : ∃ x, x = w7.alloc (.cells #[.bool false, .slice A7 k7 c7] 54) := ⟨_, rfl⟩
                  have B8 : Hid (Below w.heap.size w w8) := by rw [hw8]; exact below_step B7.out (below_alloc _ _)
                  have G8 : Hid (∀ W, Below w8.heap.size w8 W → BigT W w6.heap.size (.agg #[.bool false, .slice A7 k7 c7]) (M * (g * g))) := fun W hb => by
                    have := G7.out.below (below_alloc w7 (.cells #[.bool false, .slice A7 k7 c7] 54))
                    rw [← hw8] at this
                    exact this.below hb
                  have r0 := cell_new w7 #[.bool false, .slice A7 k7 c7] 54 0
                  have r1 := cell_new w7 #[.bool false, .slice A7 k7 c7] 54 1
                  rw [← hw8] at r0 r1
                  simp at r0 r1
                  have R0 : Hid (∀ W, Below w8.heap.size w8 W → (W.cell? ⟨w7.heap.size, 0, none⟩ = some (.bool false) ∧ W.cell? ⟨w7.heap.size, 1, none⟩ = some (.slice A7 k7 c7))) := fun W h => ⟨(h.cell (lt_of_cell r0)).trans r0, (h.cell (lt_of_cell r1)).trans r1⟩
                  go_wp2_with fail
                  rw [← hw8]
                  clear hw8
                  go_region_held3 (fun w' => w'.cell? ⟨w7.heap.size, 0, none⟩ = some (.bool false) ∧ w'.cell? ⟨w7.heap.size, 1, none⟩ = some (.slice A7 k7 c7))
                    (first | exact R0.out _ hq5 | exact R0.out _ hq4 | exact R0.out _ hq3 | exact R0.out _ hq2 | exact R0.out _ hq1 | go_keep)
                    (first
                      | (go_at_call 39; (with_reducible refine (f39_any MO w8.drew (by omega)).mono ?_); rintro e wa ⟨va, rfl, hga, hba⟩; have hq1 : Below w8.heap.size w8 wa := below_step (a := w8) (b := w8.drew) (below_drewN (Below.refl _ _) 1) hba)
                      | (go_at_call 39; (with_reducible refine (f39_any sq wa (by omega)).mono ?_); rintro e wb ⟨vb, rfl, hgb, hbb⟩; have hga2 := hga.below hbb; have hq2 : Below w8.heap.size w8 wb := below_step hq1 hbb)
                      | (go_at_call 38; refine (f38_any va vb _ _ _ _ wb hga2 hgb pMO.out psq.out).mono ?_; rintro e wc ⟨vc, rfl, hgc, hbc⟩; have hq3 : Below w8.heap.size w8 wc := below_step hq2 hbc)
                      | (go_at_call 40; refine (f40_any _ _ _ _ _ _ wc (G8.out _ hq3) hgc).mono ?_; rintro e wd ⟨rfl, hbd⟩; have hq4 : Below w8.heap.size w8 wd := below_step hq3 hbd; have hcm := hlaw.out; generalize cmpN (M * (g * g)) (MO * sq) = cm at *)
                      | (go_at_call 16; refine (f16_any _).mono ?_; rintro e we ⟨rfl, hbe⟩; have hq5 : Below w8.heap.size w8 we := below_step hq4 hbe; have BE := Lib.hid (below_step B8.out hq5)))
                  all_goals
                    go_wp2_with fail
                    go_ret
                    exact ⟨rfl, BE.out⟩
      · have hq1 : ((l : Int) != (k1 : Int)) = true := by simp; omega
        clear hlu
        go_wp2_with fail
        have B2 := Lib.hid (below_drewN B1.out x0)
        refine (f16_any _).mono ?_
        rintro e w6 ⟨rfl, hb6⟩
        have B6 := Lib.hid (below_step B2.out hb6)
        clear hb6
        go_wp2_with fail
        go_ret
        exact ⟨rfl, B6.out⟩
end Go.Proofs.Ytfaenbaaadjbbaa

namespace Go.Proofs.Ytfaenbaaadjbbaa
open Go.RowKit

/-- dibberlaw05.LuckNovikoff -/
theorem f13_any (A B D : Option Addr) (k c m d l e : Nat) (R : Int) (pts : List (List Int)) (signs us : List Int) (w : World) (hs : Came2 w A k pts) (ho : Came w B m signs) (hu : Came w D l us) :
    Calls Try.prog 13 #[.slice A k c, .slice B m d, .slice D l e, .int .i64 R] w fun e w' => e = .returned (.bool true) ∧ Below w.heap.size w w' := by
  by_cases hno : fewB (pts.map List.length) m = false ∨ 100 < k ∨ 40 < l ∨ (100 < R ∧ R ≤ 1000)
  · exact f13_no A B D k c m d l e R pts w hs ho.len hu.len hno
  · have hf : fewB (pts.map List.length) m = true := by
      cases h : fewB (pts.map List.length) m
      · exact absurd (.inl h) hno
      · rfl
    have hk : k ≤ 100 := by
      rcases Nat.lt_or_ge 100 k with h | h
      · exact absurd (.inr (.inl h)) hno
      · exact h
    have hl : l ≤ 40 := by
      rcases Nat.lt_or_ge 40 l with h | h
      · exact absurd (.inr (.inr (.inl h))) hno
      · exact h
    have hR : R ≤ 100 ∨ 1000 < R := by
      by_cases h : 100 < R ∧ R ≤ 1000
      · exact absurd (.inr (.inr (.inr h))) hno
      · omega
    by_cases h0 : pcE pts signs R = 0
    · have hR1 : R ≤ 100 := by
        rcases hR with h | h
        · exact h
        · exfalso
          by_cases e0 : ptErr pts signs = 0
          · unfold pcE at h0
            rw [if_pos e0, if_neg (by omega)] at h0
            exact absurd h0 (by decide)
          · rw [pcE_pts e0] at h0; exact e0 h0
      obtain ⟨M, hM, hM1, hM2, hpe, _⟩ := nov_facts h0 hR
      obtain ⟨f1, f2, f3, f4, f5, f6, f7⟩ := pts_facts hpe
      have a1 := (hs.ints hf).len
      have a2 := (ho.2 (by have := (fewB_facts hf).2.2; omega)).len
      obtain rfl : m = k := by omega
      exact f13_main A B D m c d l e R pts signs us w hs ho hu hf hk hl hR1 h0
    · exact f13_err A B D k c m d l e R pts signs w hs ho hf hk hl hR h0
end Go.Proofs.Ytfaenbaaadjbbaa
