/- Walk: ShareLovasz. -/
import Derived.Test.YtpehhbiodmgjeaaW33
import Derived.Test.YtpehhbiodmgjeaaW28
import Derived.Test.YtpehhbiodmgjeaaPlain13
import Derived.Test.YtpehhbiodmgjeaaBase5
import Derived.Deep.RegionHeld3
import Derived.Deep.DeepCutAuto
namespace Go.Proofs.Ytpehhbiodmgjeaa
open Go.RowKit

theorem c14_4 (A B C D : Option Addr) (n c m d q e r f : Nat) (w : World) (hn : n ≤ 9223372036854775807) (hm : m ≤ 9223372036854775807) (hq : q ≤ 9223372036854775807) (hr : r ≤ 9223372036854775807) :
    Calls Try.prog 14 #[.slice (some ⟨w.heap.size, 0, none⟩) 4 4] (w.alloc (.cells #[.slice A n c, .slice B m d, .slice C q e, .slice D r f] 22)) fun e' w' => e' = .returned (.bool (decide (n ≤ 100) && (decide (m ≤ 100) && (decide (q ≤ 100) && decide (r ≤ 100))))) ∧ w.alloc (.cells #[.slice A n c, .slice B m d, .slice C q e, .slice D r f] 22) = w' := by
  refine (f14_any _ 4 4 _ _ (lens_lit w [(A, n, c), (B, m, d), (C, q, e), (D, r, f)] (by simp) (by simpa using ⟨hn, hm, hq, hr⟩)) rfl).mono ?_
  rintro e w' ⟨rfl, rfl⟩
  exact ⟨by simp [fewB], rfl⟩
/-- The group x as weights. -/
def ones (x k : Nat) : List Int := (List.range k).map fun j => if x.testBit j then 1 else 0
theorem ones_len (x k : Nat) : (ones x k).length = k := by simp [ones]
theorem ones_succ (x k : Nat) : ones x k ++ [if x.testBit k then (1 : Int) else 0] = ones x (k + 1) := by simp [ones, List.range_succ]
theorem ones_get (x n j : Nat) (hj : j < n) : (ones x n).getD j 0 = if x.testBit j then 1 else 0 := by simp [ones, List.getD_eq_getElem?_getD, hj]
theorem wOk_mk {n : Nat} {ws : List Int} (hl : ws.length = n) (h : ∀ j, j < n → 0 ≤ ws.getD j 0 ∧ ws.getD j 0 ≤ 1000) : wOk n ws = true := by
  unfold wOk
  simp only [Bool.and_eq_true, decide_eq_true_eq, Bool.not_eq_true', List.any_eq_false]
  refine ⟨hl, fun x hx => ?_⟩
  obtain ⟨j, hj, rfl⟩ := List.getElem_of_mem hx
  have := h j (by omega)
  simp only [List.getD_eq_getElem?_getD, List.getElem?_eq_getElem hj, Option.getD_some] at this
  simp only [outW, Bool.or_eq_true, decide_eq_true_eq, not_or]
  omega
theorem ones_wOk (x n : Nat) : wOk n (ones x n) = true := wOk_mk (ones_len x n) fun j hj => by rw [ones_get x n j hj]; split <;> omega
def addW (a b : List Int) (k : Nat) : List Int := (List.range k).map fun j => a.getD j 0 + b.getD j 0
theorem addW_succ (a b : List Int) (k : Nat) : addW a b k ++ [a.getD k 0 + b.getD k 0] = addW a b (k + 1) := by simp [addW, List.range_succ]
theorem addW_len (a b : List Int) (k : Nat) : (addW a b k).length = k := by simp [addW]
theorem fills_good {n : Nat} {xs ws : List Int} (h1 : costOk n xs = true) (h2 : wOk n ws = true) : fillsErr n xs ws = 0 ∧ fillsR n xs ws = fills xs ws := by
  unfold fillsErr fillsR; rw [h1, Int.toNat_natCast, h2]; exact ⟨rfl, rfl⟩
theorem fills_bad {n : Nat} {xs ws : List Int} (h2 : wOk n ws = false) : fillsErr n xs ws = 2 := by
  unfold fillsErr; rw [Int.toNat_natCast, h2, Bool.and_false]; rfl
theorem fills_add {n : Nat} {xs a b : List Int} (g : Good n xs) (h1 : wOk n a = true) (h2 : wOk n b = true) (h3 : wOk n (addW a b n) = true) : fills xs (addW a b n) ≤ fills xs a + fills xs b := by
  obtain ⟨l1, w1⟩ := wOk_facts h1
  obtain ⟨l2, w2⟩ := wOk_facts h2
  obtain ⟨l3, w3⟩ := wOk_facts h3
  have e := dear_dot g l3 w3
  have hs : ∀ j, (addW a b n).getD j 0 = a.getD j 0 + b.getD j 0 := fun j => by
    by_cases hj : j < n
    · simp [addW, List.getD_eq_getElem?_getD, hj]
    · rw [List.getD_eq_getElem?_getD, List.getD_eq_getElem?_getD, List.getD_eq_getElem?_getD, List.getElem?_eq_none (by omega), List.getElem?_eq_none (by omega), List.getElem?_eq_none (by omega)]; rfl
  rw [dotTo_add _ a b _ hs n] at e
  have f := dear_fair (ws := addW a b n) g
  have d1 := dot_le g l1 w1 dear_len f
  have d2 := dot_le g l2 w2 dear_len f
  omega

theorem mul_bnd {x y : Int} (hx : -6000000 ≤ x ∧ x ≤ 6000000) (hy : 0 ≤ y ∧ y ≤ 1000) : -10000000000 ≤ x * y ∧ x * y ≤ 10000000000 := by
  constructor
  · have h1 : 0 ≤ (x + 6000000) * y := Int.mul_nonneg (by omega) (by omega)
    rw [Int.add_mul] at h1
    omega
  · have h1 : 0 ≤ (6000000 - x) * y := Int.mul_nonneg (by omega) (by omega)
    rw [Int.sub_mul] at h1
    omega
theorem dot_bnd (l ws : List Int) (hl : ∀ j, -6000000 ≤ l.getD j 0 ∧ l.getD j 0 ≤ 6000000) (hw : ∀ j, 0 ≤ ws.getD j 0 ∧ ws.getD j 0 ≤ 1000) (k : Nat) : -10000000000 * (k : Int) ≤ dotTo l ws k ∧ dotTo l ws k ≤ 10000000000 * (k : Int) := by
  induction k with
  | zero => simp [dotTo]
  | succ k ih =>
    have := mul_bnd (hl k) (hw k)
    have e : dotTo l ws (k + 1) = dotTo l ws k + l.getD k 0 * ws.getD k 0 := rfl
    rw [e]
    omega

set_option maxRecDepth 100000 in
set_option maxHeartbeats 16000000 in
/-- dibberlaw08.ShareLovasz, submodular costs and weights -/
theorem f11_good (n : Nat) (A B C D : Option Addr) (len c m d q e r f : Nat) (xs ws zs ys : List Int) (a : Int) (w : World) (I0 : Ints w A len xs) (J0 : Ints w B m ws) (K0 : Ints w C q zs) (L0 : Ints w D r ys)
    (hl1 : len ≤ 100) (hl2 : m ≤ 100) (hl3 : q ≤ 100) (hl4 : r ≤ 100) (ha : 0 ≤ a ∧ a ≤ 255) (h : asked n xs = 0) (hw : wOk n ws = true) :
    Calls Try.prog 11 #[.int .i64 (n : Int), .slice A len c, .slice B m d, .slice C q e, .slice D r f, .int .u8 a] w fun e w' => e = .returned (.bool true) ∧ Below w.heap.size w w' := by
  have k14 := Lib.hid (c14_4 A B C D len c m d q e r f w (by omega) (by omega) (by omega) (by omega))
  have b0 := Lib.hid (below_alloc w (.cells #[.slice A len c, .slice B m d, .slice C q e, .slice D r f] 22))
  rw [decide_eq_true hl1, decide_eq_true hl2, decide_eq_true hl3, decide_eq_true hl4] at k14
  have I0 := Lib.hid (I0.below b0.out)
  have J0 := Lib.hid (J0.below b0.out)
  have K0 := Lib.hid (K0.below b0.out)
  have L0 := Lib.hid (L0.below b0.out)
  obtain ⟨n2, hn2, g⟩ := Good.of h
  obtain rfl : n = n2 := by omega
  have hok := (asked_zero h).1
  obtain ⟨wl, wb⟩ := wOk_facts hw
  obtain rfl : n = m := by rw [← J0.out.len]; exact wl.symm
  have h6 := g.n6
  have hn1 := g.n1
  have hpos : 0 < len := by rw [← I0.out.len]; exact g.pos
  obtain ⟨x, hx, hx1, hx2⟩ := u8_mod a len ha hpos
  have hxn : x < 2 ^ n := by rw [← g.len, I0.out.len]; exact hx
  have hx64 : x < 64 := Nat.lt_of_lt_of_le hxn (pow6 n h6)
  have hsu : subm n xs = true := by rw [subm_asked]; exact decide_eq_true h
  have k21 : Hid (∀ W, Ints W A len xs → _) := fun W h => f21_any A n len c xs W h
  rw [hsu] at k21
  have k37 : Hid (∀ W, Ints W B n ws → _) := fun W h => f37_any B n n d ws W h h6
  rw [hw] at k37
  obtain ⟨f1, f2⟩ := fills_good hok hw
  have k33 : Hid (∀ W, Ints W A len xs → Ints W B n ws → _) := fun W h1 h2 => f33_any A B n len c n d xs ws W h1 h2
  rw [f1, f2] at k33
  have dE : dearErr n xs ws = 0 := by unfold dearErr; rw [if_pos h, Int.toNat_natCast, hw]; rfl
  have dR : dearR n xs ws = dearL n xs ws := by unfold dearR; rw [if_pos dE, Int.toNat_natCast]
  have dS : dearS n xs ws = fills xs ws := by unfold dearS; rw [if_pos dE, Int.toNat_natCast]; exact dear_dot g wl wb
  have k35 : Hid (∀ W, Ints W A len xs → Ints W B n ws → _) := fun W h1 h2 => f35_any A B n len c n d xs ws W h1 h2
  rw [dE, dR, dS] at k35
  have fB : fairB n xs (dearL n xs ws) = true := by
    unfold fairB
    rw [hok, Int.toNat_natCast, show shOk n (dearL n xs ws) = true from greedy_sh g, dear_fair g]; rfl
  have fE : fairErr n xs (dearL n xs ws) = 0 := by
    unfold fairErr
    rw [hok, Int.toNat_natCast, show shOk n (dearL n xs ws) = true from greedy_sh g]; rfl
  have k30p : Hid (∀ W A' k' c', Ints W A len xs → Ints W A' k' (dearL n xs ws) → _) := fun W A' k' c' h1 h2 => f30_any A A' n len c k' c' xs (dearL n xs ws) W h1 h2
  rw [fB, fE] at k30p
  obtain ⟨o1, o2⟩ := fills_good hok (ones_wOk x n)
  rw [fills_ones g x hxn (ones x n) (ones_len x n) (fun j hj => ones_get x n j hj)] at o2
  have k33o : Hid (∀ W A' k' c', Ints W A len xs → Ints W A' k' (ones x n) → _) := fun W A' k' c' h1 h2 => f33_any A A' n len c k' c' xs (ones x n) W h1 h2
  rw [o1, o2] at k33o
  have k30 : Hid (∀ W, Ints W A len xs → Ints W D r ys → _) := fun W h1 h2 => f30_any A D n len c r f xs ys W h1 h2
  have hfair : Hid (fairB n xs ys = true → fairErr n xs ys = 0 ∧ r = n ∧ (∀ j, -6000000 ≤ ys.getD j 0 ∧ ys.getD j 0 ≤ 6000000) ∧ dotTo ys ws n ≤ fills xs ws ∧ (dotTo ys ws n = fills xs ws → bfr ys (dearL n xs ws) = false)) := fun hb => by
    unfold fairB at hb
    simp only [Bool.and_eq_true, Int.toNat_natCast] at hb
    obtain ⟨⟨_, s1⟩, s2⟩ := hb
    obtain ⟨s3, s4⟩ := shOk_facts s1
    refine ⟨by unfold fairErr; rw [hok, Int.toNat_natCast, s1]; rfl, by rw [← L0.out.len]; exact s3, s4, dot_le g wl wb s3 s2, fun hd => dear_lex g wl wb s3 s2 hd⟩
  have k33z : Hid (∀ W, Ints W A len xs → Ints W C q zs → _) := fun W h1 h2 => f33_any A C n len c q e xs zs W h1 h2
  have k37z : Hid (∀ W, Ints W C q zs → _) := fun W h => f37_any C n q e zs W h h6
  have hz : Hid (wOk n zs = true → fillsErr n xs zs = 0 ∧ fillsR n xs zs = fills xs zs ∧ q = n ∧ (∀ j, 0 ≤ zs.getD j 0 ∧ zs.getD j 0 ≤ 1000) ∧ (wOk n (addW ws zs n) = true → fills xs (addW ws zs n) ≤ fills xs ws + fills xs zs)) := fun hz => by
    obtain ⟨z1, z2⟩ := fills_good hok hz
    obtain ⟨z3, z4⟩ := wOk_facts hz
    exact ⟨z1, z2, by rw [← K0.out.len]; exact z3, z4, fun hs => fills_add g hw hz hs⟩
  have hzn : Hid (wOk n zs = false → fillsErr n xs zs = 2) := fun hz => fills_bad hz
  have k33s : Hid (∀ W A' k' c', Ints W A len xs → Ints W A' k' (addW ws zs n) → _) := fun W A' k' c' h1 h2 => f33_any A A' n len c k' c' xs (addW ws zs n) W h1 h2
  have hsum : Hid (wOk n (addW ws zs n) = true → fillsErr n xs (addW ws zs n) = 0 ∧ fillsR n xs (addW ws zs n) = fills xs (addW ws zs n)) := fun hs => fills_good hok hs
  have hsumn : Hid (wOk n (addW ws zs n) = false → fillsErr n xs (addW ws zs n) = 2) := fun hs => fills_bad hs
  have bnd : ∀ v : List Int, -1000000000 ≤ fills xs v ∧ fills xs v ≤ 1000000000 := fun v => by have := fillsTo_in xs v g.bnd 1000; unfold fills; omega
  have bw := bnd ws
  have bz := bnd zs
  have WB := Lib.hid wb
  clear h hok dE dR dS fB fE o1 o2 f1 f2 hsu hxn hn2 wl wb g bnd hw
  generalize dearL n xs ws = dl at *
  generalize fills xs ws = fw at *
  go_enter Try.func11, Try.ntmps11
  go_wp2_with fail
  refine k14.out.mono ?_
  rintro e w' ⟨rfl, rfl⟩
  go_wp2_with fail
  refine (k33.out _ I0.out J0.out).mono ?_
  rintro e w1 ⟨rfl, hb⟩
  have B1 := Lib.hid (below_step b0.out hb)
  have I1 := Lib.hid (I0.out.below hb)
  have J1 := Lib.hid (J0.out.below hb)
  have K1 := Lib.hid (K0.out.below hb)
  have L1 := Lib.hid (L0.out.below hb)
  clear hb
  go_wp2_with fail
  refine (k35.out _ I1.out J1.out).mono ?_
  rintro e w2 ⟨A2, k2, c2, rfl, hi, hb⟩
  have B2 := Lib.hid (below_step B1.out hb)
  have I2 := Lib.hid (I1.out.below hb)
  have J2 := Lib.hid (J1.out.below hb)
  have K2 := Lib.hid (K1.out.below hb)
  have L2 := Lib.hid (L1.out.below hb)
  have P2 := Lib.hid hi
  clear hb hi
  go_wp2_with fail
  refine (k21.out _ I2.out).mono ?_
  rintro e w3 ⟨rfl, hd⟩
  have hb := below_draw hd
  have B3 := Lib.hid (below_step B2.out hb)
  have I3 := Lib.hid (I2.out.below hb)
  have J3 := Lib.hid (J2.out.below hb)
  have K3 := Lib.hid (K2.out.below hb)
  have L3 := Lib.hid (L2.out.below hb)
  have P3 := Lib.hid (P2.out.below hb)
  clear hb hd
  go_wp2_with fail
  refine (k37.out _ J3.out).mono ?_
  rintro e w' ⟨rfl, rfl⟩
  go_wp2_with fail
  refine (k30p.out _ _ _ _ I3.out P3.out).mono ?_
  rintro e w4 ⟨rfl, hb⟩
  have B4 := Lib.hid (below_step B3.out hb)
  have I4 := Lib.hid (I3.out.below hb)
  have J4 := Lib.hid (J3.out.below hb)
  have K4 := Lib.hid (K3.out.below hb)
  have L4 := Lib.hid (L3.out.below hb)
  have P4 := Lib.hid (P3.out.below hb)
  clear hb
  go_wp2_with fail
  go_loopw [22, 24] (fun v i wr => ∃ k : Nat, k ≤ n ∧ i = .int .i64 k ∧ Row wr w4.heap.size v (ones x k) ∧ Below w4.heap.size w4 wr) (fun _ i _ => n - (intOf i).toNat)
  case atStart => exact ⟨0, by omega, rfl, Row.nil _ _, Below.refl _ _⟩
  case round => as_aux_lemma =>
    obtain ⟨k, hk, rfl, hrow, hbel⟩ := hrel
    have HR := Lib.hid hrow
    have HB := Lib.hid hbel
    have hsz := hbel.size
    clear hrow hbel
    by_cases hlt : k < n
    · have et := shr_tmod x k
      have hst := Lib.hid (ones_succ x k)
      generalize (if x.testBit k then (1 : Int) else 0) = bb at *
      go_wp2_with (at_builtin; refine wpList_push rfl (.tmp 113) (.tmp 118) rfl w4.heap.size _ (ones x k) rfl (HR.out.alloc _) wr.heap.size 1 bb rfl ?hc ?hl ?hb ?hr)
      case hc => exact cell_new wr _ 3 0
      case hl => rw [ones_len]; omega
      case hb => simp; omega
      case hr =>
        intro v' w' hr' hg'
        rw [hst.out] at hr'
        have HR2 := Lib.hid hr'
        have HB3 : Hid (Below w4.heap.size w4 w') := below_grown (HB.out.alloc hsz _) hg' (by simp; omega) (HR.out.alloc _) (Nat.le_refl _)
        clear hr' hg'
        go_wp2_with fail
        go_roundw
        case rel => exact ⟨k + 1, by omega, by go_num, HR2.out, HB3.out⟩
        case measure => simp [intOf]; omega
    · obtain rfl : k = n := by omega
      obtain ⟨Ao, co, rfl, hio⟩ := HR.out.form
      have hio := hio 6 (by rw [ones_len]; exact h6) (by omega)
      rw [ones_len] at hio
      rw [ones_len]
      have O5 := Lib.hid hio
      obtain ⟨w5, rfl⟩ : ∃ w5 : World, w5 = wr := ⟨_, rfl⟩
      have B5 := Lib.hid (below_step B4.out HB.out)
      have I5 := Lib.hid (I4.out.below HB.out)
      have J5 := Lib.hid (J4.out.below HB.out)
      have K5 := Lib.hid (K4.out.below HB.out)
      have L5 := Lib.hid (L4.out.below HB.out)
      have P5 := Lib.hid (P4.out.below HB.out)
      clear hio HR HB hsz
      go_wp2_with fail
      refine (k33o.out _ _ _ _ I5.out O5.out).mono ?_
      rintro e w6 ⟨rfl, hb⟩
      have B6 := Lib.hid (below_step B5.out hb)
      have I6 := Lib.hid (I5.out.below hb)
      have J6 := Lib.hid (J5.out.below hb)
      have K6 := Lib.hid (K5.out.below hb)
      have L6 := Lib.hid (L5.out.below hb)
      have P6 := Lib.hid (P5.out.below hb)
      obtain ⟨bA, oA, rfl, hcx⟩ := I6.out.at_ hx
      clear hb
      go_wp2_with fail
      refine (k30.out _ I6.out L6.out).mono ?_
      rintro e w7 ⟨rfl, hb⟩
      have B7 := Lib.hid (below_step B6.out hb)
      have I7 := Lib.hid (I6.out.below hb)
      have J7 := Lib.hid (J6.out.below hb)
      have K7 := Lib.hid (K6.out.below hb)
      have L7 := Lib.hid (L6.out.below hb)
      have P7 := Lib.hid (P6.out.below hb)
      clear hb hcx
      generalize fairErr (k : Int) xs ys = fe at *
      generalize fairG (k : Int) xs ys = fg at *
      generalize fairB (k : Int) xs ys = fb at *
      have hfe : (fe == 0) = true ∨ (fe == 0) = false := by cases (fe == 0) <;> simp
      rcases hfe with hfe | hfe
      all_goals
        go_upto_if 149 with fail
        go_cut [19, 20, 26] (fun _ _ _ wx => Below w7.heap.size w7 wx)
        case first => as_aux_lemma =>
          first
            | (cases hfb : fb
               · go_wp2_with fail
                 go_meet
                 exact Below.refl _ _
               · obtain ⟨_, hr4, hy4, hdl, hdx⟩ := hfair.out hfb
                 subst hr4
                 have YB := Lib.hid hy4
                 have HDX := Lib.hid hdx
                 clear hfb hy4 hdx hfair
                 obtain ⟨bB, oB, rfl, hcb⟩ := J7.out.ad (by omega)
                 obtain ⟨bD, oD, rfl, hcd⟩ := L7.out.ad (by omega)
                 have HCB := Lib.hid hcb
                 have HCD := Lib.hid hcd
                 clear hcb hcd
                 go_wp2_with fail
                 go_loopw [26, 27] (fun o i wr => ∃ t : Nat, t ≤ r ∧ i = .int .i64 t ∧ o = .int .i64 (dotTo ys ws t) ∧ ∃ z, wr = w7.drewN z) (fun _ i _ => r - (intOf i).toNat)
                 case atStart => exact ⟨0, by omega, rfl, rfl, 0, rfl⟩
                 case round =>
                   obtain ⟨t, ht, rfl, rfl, z, rfl⟩ := hrel
                   by_cases hlt : t < r
                   · have d1 := HCB.out t hlt
                     have d2 := HCD.out t hlt
                     have b1 := WB.out t
                     have b2 := YB.out t
                     have hst : Hid (dotTo ys ws (t + 1) = dotTo ys ws t + ys.getD t 0 * ws.getD t 0) := rfl
                     have b3 : -10000000000 * (t : Int) ≤ dotTo ys ws t ∧ dotTo ys ws t ≤ 10000000000 * (t : Int) := dot_bnd ys ws YB.out WB.out t
                     have b4 := mul_bnd b2 b1
                     generalize dotTo ys ws t = s at *
                     generalize ys.getD t 0 = y at *
                     generalize ws.getD t 0 = v at *
                     rw [Int.mul_comm] at b4 hst
                     generalize hxy : v * y = xy at *
                     have hxw : IntKind.i64.wrap (v * y) = xy := by rw [hxy]; exact IntWalk.i64_in _ (by omega)
                     have hxs : IntKind.i64.wrap (s + xy) = s + xy := IntWalk.i64_in _ (by omega)
                     go_wp2_with fail
                     go_quiet (fail)
                     go_wp2
                     go_roundw
                     case rel => exact ⟨t + 1, by omega, by go_num, by rw [hst.out], by first | exact ⟨_, rfl⟩ | exact ⟨_, World.drewN_drewN _ _ _⟩⟩
                     case measure => simp [intOf]; omega
                   · obtain rfl : t = r := by omega
                     generalize dotTo ys ws t = ow at *
                     by_cases heq : ow = fw
                     · have hbf := HDX.out heq
                       have hq1 : (ow == fw) = true := by simpa using heq
                       go_wp2_with fail
                       refine (f29_any _ _ _ _ _ _ _ _ _ (L7.out.drewN z) (P7.out.drewN z)).mono ?_
                       rintro e w8 ⟨rfl, hd⟩
                       rw [hbf]
                       have hb8 := Lib.hid (below_step (below_drewN (Below.refl _ w7) z) (below_draw hd))
                       clear hd hbf
                       go_wp2_with fail
                       go_meet
                       exact hb8.out
                     · have hq1 : (ow == fw) = false := by simpa using heq
                       have hlt : ow < fw := by omega
                       go_wp2_with fail
                       go_meet
                       exact below_drewN (Below.refl _ w7) z)
            | (go_wp2_with fail
               go_meet
               exact Below.refl _ _)
        case rest => as_aux_lemma =>
          have B8 := Lib.hid (below_step B7.out hcut)
          have I8 := Lib.hid (I7.out.below hcut)
          have J8 := Lib.hid (J7.out.below hcut)
          have K8 := Lib.hid (K7.out.below hcut)
          clear hcut hfe hfair
          go_wp2_with fail
          refine (k33z.out _ I8.out K8.out).mono ?_
          rintro e w9 ⟨rfl, hb⟩
          have B9 := Lib.hid (below_step B8.out hb)
          have I9 := Lib.hid (I8.out.below hb)
          have J9 := Lib.hid (J8.out.below hb)
          have K9 := Lib.hid (K8.out.below hb)
          clear hb
          have k37y := Lib.hid (k37z.out w9 K9.out)
          cases hzw : wOk k zs
          · have hze := hzn.out hzw
            rw [hze]
            rw [hzw] at k37y
            clear hz hzw hze hzn
            go_wp2_with fail
            refine (f15_any _).mono ?_
            rintro e w10 ⟨rfl, hb⟩
            have B10 := Lib.hid (below_step B9.out hb)
            clear hb
            go_wp2_with fail
            go_ret
            exact ⟨rfl, B10.out⟩
          · obtain ⟨z1, z2, z3, z4, z5⟩ := hz.out hzw
            rw [z1, z2]
            rw [hzw] at k37y
            have ZB := Lib.hid z4
            have ZS := Lib.hid z5
            subst z3
            clear hz hzw hzn z1 z2 z4 z5
            go_wp2_with fail
            refine k37y.out.mono ?_
            rintro e w' ⟨rfl, rfl⟩
            obtain ⟨bB, oB, rfl, hcb⟩ := J9.out.ad (by omega)
            obtain ⟨bC, oC, rfl, hcc⟩ := K9.out.ad (by omega)
            have HCB := Lib.hid hcb
            have HCC := Lib.hid hcc
            clear hcb hcc
            go_wp2_with fail
            go_loopw [23, 29] (fun v i wr => ∃ t : Nat, t ≤ q ∧ i = .int .i64 t ∧ Row wr w9.heap.size v (addW ws zs t) ∧ Below w9.heap.size w9 wr) (fun _ i _ => q - (intOf i).toNat)
            case atStart => exact ⟨0, by omega, rfl, Row.nil _ _, Below.refl _ _⟩
            case round => as_aux_lemma =>
              obtain ⟨t, ht, rfl, hrow, hbel⟩ := hrel
              have HR := Lib.hid hrow
              have HB := Lib.hid hbel
              have hsz := hbel.size
              by_cases hlt : t < q
              · have d1 := (hbel.cell (lt_of_cell (HCB.out t hlt))).trans (HCB.out t hlt)
                have d2 := (hbel.cell (lt_of_cell (HCC.out t hlt))).trans (HCC.out t hlt)
                have b1 := WB.out t
                have b2 := ZB.out t
                have hst := Lib.hid (addW_succ ws zs t)
                have e1 := HCB.out t hlt
                have e2 := HCC.out t hlt
                generalize ws.getD t 0 = x1 at *
                generalize zs.getD t 0 = x2 at *
                have hxs : IntKind.i64.wrap (x1 + x2) = x1 + x2 := IntWalk.i64_in _ (by omega)
                clear hrow hbel
                go_wp2_with fail
                have R1 : Hid (Row ((wr.alloc (.cells #[.int .i64 (x1 + x2)] 3)).drew) w9.heap.size u23 (addW ws zs t)) := HR.out.alloc _
                have R2 : Hid (((wr.alloc (.cells #[.int .i64 (x1 + x2)] 3)).drew).cell? ⟨wr.heap.size, 0, none⟩ = some (.int .i64 (x1 + x2))) := cell_new wr _ 3 0
                have R3 : Hid ((addW ws zs t).length ≤ 1000000) := by rw [addW_len]; unfold Hid; omega
                have R4 : Hid (w9.heap.size ≤ ((wr.alloc (.cells #[.int .i64 (x1 + x2)] 3)).drew).heap.size) := by unfold Hid; simp; omega
                have R5 : Hid (∀ w', ((wr.alloc (.cells #[.int .i64 (x1 + x2)] 3)).drew).grownBy w' u23.ownBlock → Below w9.heap.size w9 w') := fun w' hg => below_grown ((HB.out.alloc hsz _).drew) hg R4.out R1.out (Nat.le_refl _)
                have R6 : Hid (∀ w', ((wr.alloc (.cells #[.int .i64 (x1 + x2)] 3)).drew).grownBy w' u23.ownBlock → w'.cell? ⟨bB, oB + t, none⟩ = some (.int .i64 x1) ∧ w'.cell? ⟨bC, oC + t, none⟩ = some (.int .i64 x2)) := fun w' hg => by
                  have h1 := R5.out w' hg
                  exact ⟨(h1.cell (lt_of_cell e1)).trans e1, (h1.cell (lt_of_cell e2)).trans e2⟩
                clear e1 e2
                go_region_held3 (fun w' => w'.cell? ⟨bB, oB + t, none⟩ = some (.int .i64 x1) ∧ w'.cell? ⟨bC, oC + t, none⟩ = some (.int .i64 x2))
                  (first | go_keep | exact R6.out _ hg')
                  ((refine step_push (by rfl) _ _ (by rfl) w9.heap.size u23 (addW ws zs t) (by rfl) R1.out wr.heap.size 1 (x1 + x2) (by rfl) R2.out R3.out R4.out ?_; intro v' w' hr' hg'))
                rw [hst.out] at hr'
                have HR2 := Lib.hid hr'
                have HB2 := Lib.hid (R5.out _ hg')
                clear hr' hg'
                go_wp2_with fail
                go_roundw
                case rel => exact ⟨t + 1, by omega, by go_num, HR2.out, HB2.out⟩
                case measure => simp [intOf]; omega
              · obtain rfl : t = q := by omega
                obtain ⟨Ao2, co2, rfl, hio⟩ := HR.out.form
                have hio := hio 6 (by rw [addW_len]; exact h6) (by omega)
                rw [addW_len] at hio
                rw [addW_len]
                have S10 := Lib.hid hio
                have B10 := Lib.hid (below_step B9.out HB.out)
                have I10 := Lib.hid (I9.out.below HB.out)
                clear hio hrow hbel hsz
                go_wp2_with fail
                refine (k33s.out _ _ _ _ I10.out S10.out).mono ?_
                rintro e w11 ⟨rfl, hb⟩
                have B11 := Lib.hid (below_step B10.out hb)
                clear hb
                cases hsw : wOk t (addW ws zs t)
                · have hse := hsumn.out hsw
                  rw [hse]
                  clear hsw hse hsum hsumn
                  go_wp2_with fail
                  refine (f15_any _).mono ?_
                  rintro e w12 ⟨rfl, hb⟩
                  have B12 := Lib.hid (below_step B11.out hb)
                  clear hb
                  go_wp2_with fail
                  go_ret
                  exact ⟨rfl, B12.out⟩
                · obtain ⟨s1, s2⟩ := hsum.out hsw
                  have s3 := ZS.out hsw
                  rw [s1, s2]
                  clear hsw s1 s2 hsum hsumn
                  generalize fills xs (addW ws zs t) = fs at *
                  generalize fills xs zs = fz at *
                  go_wp2_with fail
                  refine (f15_any _).mono ?_
                  rintro e w12 ⟨rfl, hb⟩
                  have B12 := Lib.hid (below_step B11.out hb)
                  clear hb
                  go_wp2_with fail
                  go_ret
                  exact ⟨rfl, B12.out⟩
end Go.Proofs.Ytpehhbiodmgjeaa
