/- Walk: luck.Perceptron. -/
import Derived.Test.YtfaenbaaadjbbaaW48
namespace Go.Proofs.Ytfaenbaaadjbbaa
open Go.RowKit

theorem enter71 (args : Array Value) (w : World) : (callFunc 71 args).run Try.prog w = .ok (.enter 71 args) w := by simp [go_sem]
/-- A new list, a number and an error came back. -/
def SlIE (w : World) (xs : List Int) (x err : Int) (e : Ending) (w' : World) : Prop := ∃ A k c, e = .returned (.tuple #[.slice A k c, .int .i64 x, .int .i64 err]) ∧ Ints w' A k xs ∧ Below w.heap.size w w'
theorem pc_bad {pts : List (List Int)} {signs : List Int} {R e : Int} (he : e ≠ 0) (h : pcE pts signs R = e) : pcW pts signs R = [] ∧ pcM pts signs R = 0 := by
  unfold pcW pcM
  rw [if_neg (by rw [h]; exact he), if_neg (by rw [h]; exact he)]
  exact ⟨rfl, rfl⟩
theorem pcE_pts {pts : List (List Int)} {signs : List Int} {R : Int} (h : ptErr pts signs ≠ 0) : pcE pts signs R = ptErr pts signs := by unfold pcE; rw [if_neg h]
theorem pc_pts {pts : List (List Int)} {signs : List Int} {R : Int} (e : Int) (he : e ≠ 0) (h : ptErr pts signs = e) : pcE pts signs R = e ∧ pcW pts signs R = [] ∧ pcM pts signs R = 0 := by
  have h1 : pcE pts signs R = e := by rw [pcE_pts (by rw [h]; exact he), h]
  exact ⟨h1, pc_bad he h1⟩
theorem pc_range {pts : List (List Int)} {signs : List Int} {R : Int} (h : ptErr pts signs = 0) (hR : ¬ (1 ≤ R ∧ R ≤ 1000)) : pcE pts signs R = 4 ∧ pcW pts signs R = [] ∧ pcM pts signs R = 0 := by
  have h1 : pcE pts signs R = 4 := by unfold pcE; rw [if_pos h, if_neg hR]
  exact ⟨h1, pc_bad (by decide) h1⟩
theorem pc_miss {pts : List (List Int)} {signs : List Int} {R : Nat} (h : ptErr pts signs = 0) (hR : 1 ≤ R ∧ R ≤ 1000) (hb : ∀ j, j < R → calm pts signs (pts.getD 0 []).length j = false) : pcE pts signs R = 10 ∧ pcW pts signs R = [] ∧ pcM pts signs R = 0 := by
  have h1 : pcE pts signs R = 10 := by unfold pcE; rw [if_pos h, if_pos (by omega), Int.toNat_natCast, calm_miss hb]; rfl
  exact ⟨h1, pc_bad (by decide) h1⟩
theorem pc_hit {pts : List (List Int)} {signs : List Int} {R r : Nat} (h : ptErr pts signs = 0) (hR : 1 ≤ R ∧ R ≤ 1000) (hr : r < R) (hc : calm pts signs (pts.getD 0 []).length r = true) (hb : ∀ j, j < r → calm pts signs (pts.getD 0 []).length j = false) :
    pcE pts signs R = 0 ∧ pcW pts signs R = (runs pts signs (pts.getD 0 []).length (r + 1)).1 ∧ pcM pts signs R = (runs pts signs (pts.getD 0 []).length (r + 1)).2 := by
  have h1 : pcE pts signs R = 0 := by unfold pcE; rw [if_pos h, if_pos (by omega), Int.toNat_natCast, calm_hit hr hc hb]; rfl
  refine ⟨h1, ?_, ?_⟩
  · unfold pcW; rw [if_pos h1, Int.toNat_natCast, calm_hit hr hc hb]; rfl
  · unfold pcM; rw [if_pos h1, Int.toNat_natCast, calm_hit hr hc hb]; rfl
/-- Some weights are new already. -/
def newTo (W p : List Int) (g : Int) (t j : Nat) : Int := if j < t then W.getD j 0 + g * p.getD j 0 else W.getD j 0
theorem newTo_zero (W p : List Int) (g : Int) (j : Nat) : newTo W p g 0 j = W.getD j 0 := if_neg (by omega)
theorem newTo_at (W p : List Int) (g : Int) (t : Nat) : newTo W p g t t = W.getD t 0 := if_neg (by omega)
theorem newTo_now (W p : List Int) (g : Int) (t : Nat) : newTo W p g (t + 1) t = W.getD t 0 + g * p.getD t 0 := if_pos (by omega)
theorem newTo_other (W p : List Int) (g : Int) (t j : Nat) (h : j ≠ t) : newTo W p g (t + 1) j = newTo W p g t j := by
  unfold newTo
  by_cases h1 : j < t
  · rw [if_pos h1, if_pos (by omega)]
  · rw [if_neg h1, if_neg (by omega)]
theorem newTo_all {W p L : List Int} {g : Int} {d : Nat} (hl : L.length = d) (h : ∀ j, j < d → L.getD j 0 = newTo W p g d j) : L = ptW p g d W := by
  refine getD_ext (by rw [hl, ptW_len]) fun j hj => ?_
  have hj : j < d := by omega
  rw [h j hj, ptW_get hj]
  exact if_pos hj
theorem Held.mono {d M N : Nat} {s : List Int × Nat} (h : Held d M s) (hM : M ≤ N) : Held d N s := ⟨h.1, Nat.le_trans h.2.1 hM, h.2.2⟩
theorem prod_small {x y B : Int} (hx : -100 ≤ x ∧ x ≤ 100) (hy : -B ≤ y ∧ y ≤ B) : -(100 * B) ≤ x * y ∧ x * y ≤ 100 * B := by
  have a1 : (100 - x) * (B - y) ≥ 0 := Int.mul_nonneg (by omega) (by omega)
  have a2 : (100 + x) * (B + y) ≥ 0 := Int.mul_nonneg (by omega) (by omega)
  have a3 : (100 - x) * (B + y) ≥ 0 := Int.mul_nonneg (by omega) (by omega)
  have a4 : (100 + x) * (B - y) ≥ 0 := Int.mul_nonneg (by omega) (by omega)
  rw [Int.sub_mul, Int.mul_sub, Int.mul_sub] at a1
  rw [Int.add_mul, Int.mul_add, Int.mul_add] at a2
  rw [Int.sub_mul, Int.mul_add, Int.mul_add] at a3
  rw [Int.add_mul, Int.mul_sub, Int.mul_sub] at a4
  generalize x * y = z at *
  generalize x * B = u at *
  omega
theorem sgn_mul {g S B : Int} (hg : g = 1 ∨ g = -1) (hS : -B ≤ S ∧ S ≤ B) : -B ≤ g * S ∧ g * S ≤ B := by rcases hg with rfl | rfl <;> omega
set_option maxRecDepth 100000 in
set_option maxHeartbeats 4000000 in
/-- luck.Perceptron: no points -/
theorem f43_no (A B : Option Addr) (k c m d : Nat) (R : Int) (pts : List (List Int)) (signs : List Int) (w : World) (hs : IntsS w A k pts) (ho : Ints w B m signs) (h : ¬ (k ≤ 50 ∧ 1 ≤ k ∧ 1 ≤ (pts.getD 0 []).length ∧ (pts.getD 0 []).length ≤ 6 ∧ m = k)) :
    Calls Try.prog 43 #[.slice A k c, .slice B m d, .int .i64 R] w (SlIE w (pcW pts signs R) (pcM pts signs R) (pcE pts signs R)) := by
  have hks := hs.small
  have hms := ho.small
  have hkl := hs.len
  have hml := ho.len
  by_cases h50 : 50 < k
  · obtain ⟨e1, e2, e3⟩ := pc_pts (R := R) 3 (by decide) (by unfold ptErr; rw [if_pos (by omega : 50 < pts.length)] : ptErr pts signs = 3)
    rw [e1, e2, e3]
    clear hs ho hkl hml h e1 e2 e3
    go_enter Try.func43, Try.ntmps43
    go_wp2
    go_ret3
    exact ⟨_, _, _, rfl, Ints.nil _ _, Below.refl _ _⟩
  obtain ⟨e1, e2, e3⟩ := pc_pts (R := R) 2 (by decide) (pts_none (pts := pts) (signs := signs) (by omega) (by omega))
  rw [e1, e2, e3]
  by_cases h0 : k = 0
  · subst h0
    clear hs ho hkl hml h e1 e2 e3
    go_enter Try.func43, Try.ntmps43
    go_wp2
    go_ret3
    exact ⟨_, _, _, rfl, Ints.nil _ _, Below.refl _ _⟩
  obtain ⟨b0, o0, rfl, D0, e0, hc0, hi0⟩ := hs.at_ (show 0 < k by omega)
  rw [Nat.add_zero] at hc0
  have hd0 := hi0.small
  have hk0 : (0 : Int) < (k : Int) := by omega
  have hk00 : 0 < k := by omega
  generalize (pts.getD 0 []).length = L at *
  clear hs ho hkl hml hi0 e1 e2 e3
  by_cases t1 : L < 1
  · clear h
    go_enter Try.func43, Try.ntmps43
    go_wp2
    go_ret3
    exact ⟨_, _, _, rfl, Ints.nil _ _, Below.refl _ _⟩
  by_cases t2 : 6 < L
  · clear h
    go_enter Try.func43, Try.ntmps43
    go_wp2
    go_ret3
    exact ⟨_, _, _, rfl, Ints.nil _ _, Below.refl _ _⟩
  have hq : ((m : Int) != (k : Int)) = true := by simp; omega
  have hkz : ((k : Int) == 0) = false := by simp; omega
  clear h
  go_enter Try.func43, Try.ntmps43
  go_wp2
  go_ret3
  exact ⟨_, _, _, rfl, Ints.nil _ _, Below.refl _ _⟩
set_option maxRecDepth 100000 in
set_option maxHeartbeats 16000000 in
/-- luck.Perceptron: some points -/
theorem f43_main (b0 o0 k c : Nat) (B : Option Addr) (d : Nat) (R : Int) (pts : List (List Int)) (signs : List Int) (w : World) (hs : IntsS w (some ⟨b0, o0, none⟩) k pts) (ho : Ints w B k signs) (hk50 : k ≤ 50) (hk1 : 1 ≤ k) (hd1 : 1 ≤ (pts.getD 0 []).length) (hd6 : (pts.getD 0 []).length ≤ 6) :
    Calls Try.prog 43 #[.slice (some ⟨b0, o0, none⟩) k c, .slice B k d, .int .i64 R] w (SlIE w (pcW pts signs R) (pcM pts signs R) (pcE pts signs R)) := by
  have hkl := hs.len
  have hml := ho.len
  have Q1 : Hid (∀ i, i < k → rowOk (pts.getD 0 []).length (pts.getD i []) = false ∨ signB (signs.getD i 0) = false → pcE pts signs R = 2 ∧ pcW pts signs R = [] ∧ pcM pts signs R = 0) := fun i hi h => by
    rcases h with h | h
    · exact pc_pts 2 (by decide) (pts_row (by omega) (by omega) h)
    · exact pc_pts 2 (by decide) (pts_sign (by omega) (by omega) h)
  have Q2 : Hid ((∀ i, i < k → rowOk (pts.getD 0 []).length (pts.getD i []) = true ∧ signB (signs.getD i 0) = true) → ptErr pts signs = 0) := fun h =>
    pts_good (by omega) ⟨by omega, hd1, hd6, by omega⟩ (fun i hi => (h i (by omega)).1) (fun i hi => (h i (by omega)).2)
  obtain ⟨b0', o0', hA0, D0, e0, hc0, hi0⟩ := hs.at_ (show 0 < k by omega)
  injection hA0 with hA0
  injection hA0 with hA1 hA2
  subst hA1 hA2
  rw [Nat.add_zero] at hc0
  have hk0 : (0 : Int) < (k : Int) := by omega
  have hk00 : 0 < k := by omega
  have hq0 : ((k : Int) != (k : Int)) = false := by simp
  have hkz : ((k : Int) == 0) = false := by simp; omega
  have HS := Lib.hid hs
  have HO := Lib.hid ho
  obtain ⟨L, hL⟩ : ∃ L, L = (pts.getD 0 []).length := ⟨_, rfl⟩
  rw [← hL] at hd1 hd6 hc0
  have HLL := Lib.hid hL
  obtain ⟨X, hX⟩ : ∃ X, X = pcW pts signs R := ⟨_, rfl⟩
  obtain ⟨Y, hY⟩ : ∃ Y, Y = pcM pts signs R := ⟨_, rfl⟩
  obtain ⟨E, hE⟩ : ∃ E, E = pcE pts signs R := ⟨_, rfl⟩
  rw [← hX, ← hY, ← hE]
  have HX := Lib.hid hX
  have HY := Lib.hid hY
  have HE := Lib.hid hE
  clear hs ho hkl hml hi0 hX hY hE hL
  go_enter Try.func43, Try.ntmps43
  go_wp2
  go_loop [11, 12, 56] (fun _ _ i => ∃ n : Nat, n ≤ k ∧ i = .int .i64 (n : Int) ∧ (∀ a, a < n → rowOk L (pts.getD a []) = true ∧ signB (signs.getD a 0) = true)) (fun _ _ i => k - (intOf i).toNat)
  case atStart => exact ⟨0, by omega, rfl, fun a ha => absurd ha (by omega)⟩
  case round => as_aux_lemma =>
    obtain ⟨n, hn, rfl, hbef⟩ := hrel
    have HB := Lib.hid hbef
    clear hbef
    by_cases hlt : n < k
    · obtain ⟨b1, o1, hA1, D, e, hc, hi⟩ := HS.out.at_ hlt
      injection hA1 with hA1
      injection hA1 with hA2 hA3
      subst hA2 hA3
      obtain ⟨b2, o2, rfl, hcs⟩ := HO.out.at_ hlt
      have hbad := Lib.hid (Q1.out n hlt)
      rw [← HLL.out] at hbad
      generalize hx : pts.getD n [] = x at *
      generalize hg : signs.getD n 0 = g at *
      have HXX := Lib.hid hx
      have HGG := Lib.hid hg
      have hxs := hi.small
      have hn0 : (0 : Int) ≤ (n : Int) := by omega
      have hnk : (n : Int) < (k : Int) := by omega
      have k72 := Lib.hid (f72_any D x.length e x 71 #[] farB w hi enter71 (fun j _ => f71_any _ _))
      have HIX := Lib.hid hi
      clear hi hx hg
      by_cases hl : x.length = L
      · have hq : ((x.length : Int) != (L : Int)) = false := by simp; omega
        cases hany : x.any farB
        · rw [hany] at k72
          have HROW : Hid (rowOk L x = true) := by unfold rowOk; rw [hany, decide_eq_true hl]; rfl
          by_cases y1 : g = 1
          · have hq1 : (g != 1) = false := by simpa using y1
            have HSG : Hid (signB g = true) := (signB_iff g).2 (.inl y1)
            clear y1 hany hl
            go_wp2_with fail
            refine k72.out.mono ?_
            rintro e3 w' ⟨rfl, rfl⟩
            go_wp2
            go_round
            case rel => exact ⟨n + 1, by omega, by go_num, fun a ha => by
              rcases Nat.lt_or_ge a n with h | h
              · exact HB.out a h
              · obtain rfl : a = n := by omega
                rw [HXX.out, HGG.out]; exact ⟨HROW.out, HSG.out⟩⟩
            case measure => simp [intOf]; omega
          · have hq1 : (g != 1) = true := by simpa using y1
            by_cases y2 : g = -1
            · have hq2 : (g != -1) = false := by simpa using y2
              have HSG : Hid (signB g = true) := (signB_iff g).2 (.inr y2)
              clear y1 y2 hany hl
              go_wp2_with fail
              refine k72.out.mono ?_
              rintro e3 w' ⟨rfl, rfl⟩
              go_wp2
              go_round
              case rel => exact ⟨n + 1, by omega, by go_num, fun a ha => by
                rcases Nat.lt_or_ge a n with h | h
                · exact HB.out a h
                · obtain rfl : a = n := by omega
                  rw [HXX.out, HGG.out]; exact ⟨HROW.out, HSG.out⟩⟩
              case measure => simp [intOf]; omega
            · have hq2 : (g != -1) = true := by simpa using y2
              have hfin := Lib.hid (hbad.out (.inr (by
                cases h : signB g
                · rfl
                · rcases (signB_iff g).1 h with h2 | h2
                  · exact absurd h2 y1
                  · exact absurd h2 y2)))
              clear y1 y2 hany hl
              go_wp2_with fail
              refine k72.out.mono ?_
              rintro e3 w' ⟨rfl, rfl⟩
              go_wp2
              go_ret3
              rw [HX.out, HY.out, HE.out, hfin.out.1, hfin.out.2.1, hfin.out.2.2]
              exact ⟨_, _, _, rfl, Ints.nil _ _, Below.refl _ _⟩
        · rw [hany] at k72
          have hfin := Lib.hid (hbad.out (.inl (by unfold rowOk; rw [hany]; simp)))
          clear hany hl
          go_wp2_with fail
          refine k72.out.mono ?_
          rintro e3 w' ⟨rfl, rfl⟩
          go_wp2
          go_ret3
          rw [HX.out, HY.out, HE.out, hfin.out.1, hfin.out.2.1, hfin.out.2.2]
          exact ⟨_, _, _, rfl, Ints.nil _ _, Below.refl _ _⟩
      · have hq : ((x.length : Int) != (L : Int)) = true := by simp; omega
        have hfin := Lib.hid (hbad.out (.inl (by unfold rowOk; rw [decide_eq_false hl]; rfl)))
        clear hl
        go_wp2
        go_ret3
        rw [HX.out, HY.out, HE.out, hfin.out.1, hfin.out.2.1, hfin.out.2.2]
        exact ⟨_, _, _, rfl, Ints.nil _ _, Below.refl _ _⟩
    · obtain rfl : n = k := by omega
      have hpe := Q2.out (by rw [← HLL.out]; exact HB.out)
      obtain ⟨f1, f2, f3, f4, f5, f6, f7⟩ := pts_facts hpe
      rw [← HLL.out] at f6
      have hkl := HS.out.len
      have HROW : Hid (∀ i, i < n → (pts.getD i []).length = L ∧ ∀ j, -100 ≤ (pts.getD i []).getD j 0 ∧ (pts.getD i []).getD j 0 ≤ 100) := fun i hi => f6 i (by omega)
      have HSG : Hid (∀ i, i < n → signs.getD i 0 = 1 ∨ signs.getD i 0 = -1) := fun i hi => f7 i (by omega)
      by_cases hR : 1 ≤ R ∧ R ≤ 1000
      · obtain ⟨N, rfl⟩ := nat_of R (by omega)
        have hN1 : 1 ≤ N := by omega
        have hN2 : N ≤ 1000 := by omega
        have P1 : Hid ((∀ j, j < N → calm pts signs L j = false) → pcE pts signs N = 10 ∧ pcW pts signs N = [] ∧ pcM pts signs N = 0) := fun h => pc_miss hpe ⟨hN1, hN2⟩ (by rw [← HLL.out]; exact h)
        have P2 : Hid (∀ r, r < N → calm pts signs L r = true → (∀ j, j < r → calm pts signs L j = false) → pcE pts signs N = 0 ∧ pcW pts signs N = (runs pts signs L (r + 1)).1 ∧ pcM pts signs N = (runs pts signs L (r + 1)).2) := fun r h1 h2 h3 => by
          rw [HLL.out] at h2 h3 ⊢
          exact pc_hit hpe ⟨hN1, hN2⟩ h1 h2 h3
        have HRU : Hid (∀ r, Held L (r * n) (runs pts signs L r)) := fun r => by
          have := Held.runs (pts := pts) (signs := signs) (d := L) r f7 (fun k hk => (f6 k hk).2)
          rwa [hkl] at this
        have HRN : Hid (∀ r i, i ≤ n → Held L (r * n + i) (rnd pts signs L (runs pts signs L r) i)) := fun r i hi => (HRU.out r).rnd i (fun j hj => f7 j (by omega)) (fun k hk => (f6 k (by omega)).2)
        have HRS : Hid (∀ r, runs pts signs L (r + 1) = rnd pts signs L (runs pts signs L r) n) := fun r => by rw [← hkl]; rfl
        have HR0 : Hid (runs pts signs L 0 = (List.replicate L 0, 0)) := rfl
        have hmk := make_ints L (by omega) w
        obtain ⟨w2, hw2⟩ : ∃ w2, w2 = w.alloc (.cells ((List.replicate L (0 : Int)).map (Value.int .i64)).toArray 3) := ⟨_, rfl⟩
        rw [← hw2] at hmk
        have O2 : Hid (Own w2 w.heap.size (List.replicate L 0)) := by rw [hw2]; exact Own.made w L
        have B2 : Hid (Below w.heap.size w w2) := by rw [hw2]; exact below_alloc _ _
        clear hpe f1 f2 f3 f4 f5 f6 f7 hkl hw2 hR Q1 Q2
        have HRB : Hid (∀ r i, r < N → i ≤ n → Held L 50000 (rnd pts signs L (runs pts signs L r) i)) := fun r i hr hi => (HRN.out r i hi).mono (by
          have : r * n ≤ 999 * 50 := Nat.mul_le_mul (by omega) hk50
          omega)
        clear HRN HRU
        go_wp2_with fail
        go_loopw [14, 15, 16, 17, 18, 19, 20, 21, 22, 94] (fun M _ _ _ _ _ _ _ _ i wr => ∃ r : Nat, r ≤ N ∧ i = .int .i64 (r : Int) ∧ M = .int .i64 ((runs pts signs L r).2 : Int) ∧ Own wr w.heap.size (runs pts signs L r).1 ∧ Below w.heap.size w wr ∧ Hid (∀ j, j < r → calm pts signs L j = false)) (fun _ _ _ _ _ _ _ _ _ i _ => N - (intOf i).toNat)
        case atStart => exact ⟨0, by omega, rfl, by rw [HR0.out]; rfl, by rw [HR0.out]; exact O2.out, B2.out, fun j hj => absurd hj (by omega)⟩
        case round => as_aux_lemma =>
          obtain ⟨r, hr, rfl, rfl, hown, hbel, hcalm⟩ := hrel
          by_cases hlr : r < N
          · have HHELD := Lib.hid (fun i hi => HRB.out r i hlr hi)
            have HNEXT := Lib.hid (HRS.out r)
            have HCALM : Hid (calm pts signs L r = ((runs pts signs L (r + 1)).2 == (runs pts signs L r).2)) := rfl
            have HP2 := Lib.hid (P2.out r hlr)
            obtain ⟨s0, hs0⟩ : ∃ s0, s0 = runs pts signs L r := ⟨_, rfl⟩
            rw [← hs0] at HHELD HNEXT HCALM hown ⊢
            have hm0 : s0.2 ≤ 50000 := (HHELD.out 0 (by omega)).2.1
            have HOW := Lib.hid hown
            have HBE := Lib.hid hbel
            clear hown hbel hs0 HRB HRS P1 P2
            go_wp2_with fail
            go_loopw [14, 16, 17, 18, 19, 20, 21, 22, 99] (fun M _ _ _ _ _ _ _ i wr => ∃ q : Nat, q ≤ n ∧ i = .int .i64 (q : Int) ∧ M = .int .i64 ((rnd pts signs L s0 q).2 : Int) ∧ Own wr w.heap.size (rnd pts signs L s0 q).1 ∧ Below w.heap.size w wr) (fun _ _ _ _ _ _ _ _ i _ => n - (intOf i).toNat)
            case atStart => exact ⟨0, by omega, rfl, rfl, HOW.out, HBE.out⟩
            case round => as_aux_lemma =>
              obtain ⟨q, hq, rfl, rfl, hown, hbel⟩ := hrel
              by_cases hlq : q < n
              · obtain ⟨b1, o1, hA1, D, e, hc, hi⟩ := HS.out.at_ hlq
                injection hA1 with hA1
                injection hA1 with hA2 hA3
                subst hA2 hA3
                obtain ⟨b2, o2, rfl, hcs⟩ := HO.out.at_ hlq
                obtain ⟨r1, r2⟩ := HROW.out q hlq
                have hsg := HSG.out q hlq
                rw [r1] at hc hi
                have HC := Lib.hid hc
                have HCS := Lib.hid hcs
                have HI := Lib.hid hi
                have hc1 := (hbel.cell (lt_of_cell hc)).trans hc
                have hcs1 := (hbel.cell (lt_of_cell hcs)).trans hcs
                have hst : Hid (rnd pts signs L s0 (q + 1) = ptStep (pts.getD q []) (signs.getD q 0) L (rnd pts signs L s0 q)) := rfl
                obtain ⟨h1, h2, h3⟩ := HHELD.out q (by omega)
                generalize rnd pts signs L s0 q = s at *
                generalize pts.getD q [] = p at *
                generalize signs.getD q 0 = g at *
                have hw : ∀ j, -5000000 ≤ s.1.getD j 0 ∧ s.1.getD j 0 ≤ 5000000 := fun j => by have := h3 j; omega
                have HDOT : Hid (∀ t, t ≤ L → -3000000000 ≤ dotTo p s.1 t ∧ dotTo p s.1 t ≤ 3000000000) := fun t ht => by
                  have := dot_small (B := 5000000) r2 hw t
                  omega
                have HDS : Hid (∀ t, dotTo p s.1 (t + 1) = dotTo p s.1 t + p.getD t 0 * s.1.getD t 0) := fun t => rfl
                have HD0 : Hid (dotTo p s.1 0 = 0) := rfl
                have HOW := Lib.hid hown
                have HBE := Lib.hid hbel
                have HW := Lib.hid hw
                have HPB := Lib.hid r2
                have HLW := Lib.hid h1
                have hq0 : (0 : Int) ≤ (q : Int) := by omega
                have hqn : (q : Int) < (n : Int) := by omega
                obtain ⟨wq, rfl⟩ : ∃ wq : World, wq = wr := ⟨_, rfl⟩
                clear hown hbel hc hcs hi r1 r2 h1 h3 hw HHELD HNEXT HCALM HP2
                go_wp2_with fail
                go_loop [18, 19, 20, 106] (fun a _ _ i => ∃ t : Nat, t ≤ L ∧ i = .int .i64 (t : Int) ∧ a = .int .i64 (dotTo p s.1 t)) (fun _ _ _ i => L - (intOf i).toNat)
                case atStart => exact ⟨0, by omega, rfl, by rw [HD0.out]⟩
                case round => as_aux_lemma =>
                  obtain ⟨t, ht, rfl, rfl⟩ := hrel
                  obtain ⟨v1, v2⟩ := HDOT.out t ht
                  by_cases hlt2 : t < L
                  · obtain ⟨b3, o3, rfl, hcp⟩ := HI.out.at_ hlt2
                    have hcp := (HBE.out.cell (lt_of_cell hcp)).trans hcp
                    have hco := HOW.out.cell t (by rw [HLW.out]; exact hlt2)
                    have hstt := Lib.hid (HDS.out t)
                    have px := prod_small (HPB.out t) (HW.out t)
                    generalize dotTo p s.1 t = a at *
                    generalize p.getD t 0 = x at *
                    generalize s.1.getD t 0 = y at *
                    obtain ⟨px1, px2⟩ := px
                    have w1 : IntKind.i64.wrap (x * y) = x * y := IntWalk.i64_in _ (by omega)
                    have w2' : IntKind.i64.wrap (a + x * y) = a + x * y := IntWalk.i64_in _ (by omega)
                    have ht0 : (0 : Int) ≤ (t : Int) := by omega
                    have htL : (t : Int) < (L : Int) := by omega
                    go_wp2
                    go_round
                    case rel => exact ⟨t + 1, by omega, by go_num, by rw [hstt.out]⟩
                    case measure => simp [intOf]; omega
                  · obtain rfl : t = L := by omega
                    have hgs := sgn_mul hsg ⟨v1, v2⟩
                    have hstep : Hid ((0 < g * dotTo p s.1 t → rnd pts signs t s0 (q + 1) = s) ∧ (¬ 0 < g * dotTo p s.1 t → rnd pts signs t s0 (q + 1) = (ptW p g t s.1, s.2 + 1))) := by
                      rw [hst.out]
                      unfold ptStep
                      exact ⟨fun h => by rw [if_pos h], fun h => by rw [if_neg h]⟩
                    obtain ⟨z, hz⟩ : ∃ z, z = g * dotTo p s.1 t := ⟨_, rfl⟩
                    rw [← hz] at hgs hstep
                    generalize dotTo p s.1 t = S at *
                    have wz : IntKind.i64.wrap (g * S) = z := by rw [← hz]; exact IntWalk.i64_in _ (by omega)
                    clear hz hst HDOT HDS HD0
                    by_cases hzp : 0 < z
                    · have hnx := Lib.hid (hstep.out.1 hzp)
                      clear hstep
                      go_wp2
                      go_roundw
                      case rel => exact ⟨q + 1, by omega, by go_num, by rw [hnx.out], by rw [hnx.out]; exact HOW.out, HBE.out⟩
                      case measure => simp [intOf]; omega
                    · have hnx := Lib.hid (hstep.out.2 hzp)
                      clear hstep
                      go_wp2_with fail
                      go_loopw [21, 22, 131] (fun _ _ i wr => ∃ (u : Nat) (W : List Int), u ≤ t ∧ i = .int .i64 (u : Int) ∧ Own wr w.heap.size W ∧ Hid (W.length = t ∧ ∀ j, j < t → W.getD j 0 = newTo s.1 p g u j) ∧ Below w.heap.size w wr) (fun _ _ i _ => t - (intOf i).toNat)
                      case atStart => exact ⟨0, s.1, by omega, rfl, HOW.out, ⟨HLW.out, fun j _ => (newTo_zero _ _ _ _).symm⟩, HBE.out⟩
                      case round => as_aux_lemma =>
                        obtain ⟨u, W, hu, rfl, hown, hW, hbel⟩ := hrel
                        have HOW2 := Lib.hid hown
                        have HBE2 := Lib.hid hbel
                        by_cases hlu : u < t
                        · obtain ⟨b3, o3, rfl, hcp⟩ := HI.out.at_ hlu
                          have hcp := (hbel.cell (lt_of_cell hcp)).trans hcp
                          have hcs2 := (hbel.cell (lt_of_cell HCS.out)).trans HCS.out
                          have hco := hown.cell u (by rw [hW.out.1]; exact hlu)
                          have hfz := hown.frozen u
                          rw [hW.out.2 u hlu, newTo_at] at hco
                          have hnow := Lib.hid (newTo_now s.1 p g u)
                          have px := sgn_in hsg (HPB.out u)
                          have py := HW.out u
                          generalize p.getD u 0 = x at *
                          generalize s.1.getD u 0 = y at *
                          obtain ⟨v, hv⟩ : ∃ v, v = g * x := ⟨_, rfl⟩
                          rw [← hv] at px hnow
                          obtain ⟨px1, px2⟩ := px
                          obtain ⟨py1, py2⟩ := py
                          have w1 : IntKind.i64.wrap (g * x) = v := by rw [← hv]; exact IntWalk.i64_in _ (by omega)
                          have w2' : IntKind.i64.wrap (y + v) = y + v := IntWalk.i64_in _ (by omega)
                          have hu0 : (0 : Int) ≤ (u : Int) := by omega
                          have hut : (u : Int) < (t : Int) := by omega
                          clear hown hbel hv hcs1 hc1
                          go_wp2_with fail
                          go_still_tail 12, (by kernel_rfl)
                          change wpList _ _ _ _ _ wr.drew
                          go_wp2_with fail
                          go_roundw
                          case rel => exact ⟨u + 1, W.set u (y + v), by omega, by go_num, (HOW2.out.set_ u _).drew, ⟨by rw [List.length_set]; exact hW.out.1, fun j hj => by
                            by_cases hju : j = u
                            · subst hju; rw [getS_set _ _ _ (by rw [hW.out.1]; exact hlu), hnow.out]
                            · rw [getN_set _ _ _ _ (by rw [hW.out.1]; exact hlu) hju, newTo_other _ _ _ _ _ hju]; exact hW.out.2 j hj⟩, (HBE2.out.setCell (Nat.le_refl _) _).drew⟩
                          case measure => simp [intOf]; omega
                        · obtain rfl : u = t := by omega
                          have hWe : W = ptW p g u s.1 := newTo_all hW.out.1 hW.out.2
                          rw [hWe] at HOW2
                          clear hown hbel
                          go_wp2
                          go_roundw
                          case rel => exact ⟨q + 1, by omega, by go_num, by rw [hnx.out]; go_num, by rw [hnx.out]; exact HOW2.out, HBE2.out⟩
                          case measure => simp [intOf]; omega
              · obtain rfl : q = n := by omega
                have hm1 : (rnd pts signs L s0 q).2 ≤ 50000 := (HHELD.out q (by omega)).2.1
                rw [← HNEXT.out] at hm1 hown ⊢
                have HOW := Lib.hid hown
                have HBE := Lib.hid hbel
                have HLN := Lib.hid ((HHELD.out q (by omega)).1)
                rw [← HNEXT.out] at HLN
                clear hown hbel HHELD HNEXT
                generalize hs1 : runs pts signs L (r + 1) = s1 at *
                have HS1 := Lib.hid hs1
                clear hs1
                obtain ⟨M1, hM1⟩ : ∃ M1, M1 = s1.2 := ⟨_, rfl⟩
                obtain ⟨M0, hM0⟩ : ∃ M0, M0 = s0.2 := ⟨_, rfl⟩
                rw [← hM1, ← hM0] at HCALM
                have HM1 := Lib.hid hM1
                have HM0 := Lib.hid hM0
                rw [← hM1] at hm1 HP2 ⊢
                rw [← hM0] at hm0
                by_cases hMM : M1 = M0
                · have hcal : calm pts signs L r = true := by rw [HCALM.out, hMM]; simp
                  have hfin := Lib.hid (HP2.out hcal hcalm.out)
                  have hqq : ((M1 : Int) == (M0 : Int)) = true := by simp; omega
                  have HI1 := Lib.hid (HOW.out.ints' HLN.out (by omega))
                  clear hMM hcal HCALM HP2
                  go_wp2
                  go_ret3
                  rw [HX.out, HY.out, HE.out, hfin.out.1, hfin.out.2.1, hfin.out.2.2]
                  exact ⟨_, _, _, rfl, HI1.out, HBE.out⟩
                · have hcal : Hid (calm pts signs L r = false) := by
                    rw [HCALM.out]
                    show _ = false
                    simpa using hMM
                  have hqq : ((M1 : Int) == (M0 : Int)) = false := by simp; omega
                  clear hMM HCALM HP2
                  go_wp2
                  go_roundw
                  case rel => exact ⟨r + 1, by omega, by go_num, by rw [HS1.out, HM1.out], by rw [HS1.out]; exact HOW.out, HBE.out, fun j hj => by
                    rcases Nat.lt_or_ge j r with h | h
                    · exact hcalm.out j h
                    · obtain rfl : j = r := by omega
                      exact hcal.out⟩
                  case measure => simp [intOf]; omega
          · obtain rfl : r = N := by omega
            have hfin := Lib.hid (P1.out hcalm.out)
            have HBE := Lib.hid hbel
            clear hown hbel
            go_wp2
            go_ret3
            rw [HX.out, HY.out, HE.out, hfin.out.1, hfin.out.2.1, hfin.out.2.2]
            exact ⟨_, _, _, rfl, Ints.nil _ _, HBE.out⟩
      · obtain ⟨p1, p2, p3⟩ := pc_range (R := R) hpe hR
        have hfin := Lib.hid (And.intro p1 (And.intro p2 p3))
        clear hpe f1 f2 f3 f4 f5 f6 f7 hkl p1 p2 p3
        by_cases hR1 : R < 1
        · clear hR
          go_wp2
          go_ret3
          rw [HX.out, HY.out, HE.out, hfin.out.1, hfin.out.2.1, hfin.out.2.2]
          exact ⟨_, _, _, rfl, Ints.nil _ _, Below.refl _ _⟩
        · have hR2 : 1000 < R := by omega
          clear hR
          go_wp2
          go_ret3
          rw [HX.out, HY.out, HE.out, hfin.out.1, hfin.out.2.1, hfin.out.2.2]
          exact ⟨_, _, _, rfl, Ints.nil _ _, Below.refl _ _⟩
end Go.Proofs.Ytfaenbaaadjbbaa
