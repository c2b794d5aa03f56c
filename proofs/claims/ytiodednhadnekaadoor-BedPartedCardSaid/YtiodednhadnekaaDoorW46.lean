/- Walks: part. -/
import Derived.Test.YtiodednhadnekaaDoorW45
namespace Go.Proofs.YtiodednhadnekaaDoor
open Go.RowKit Go.Deep
attribute [local go_sem ↓] Go.wp_at_zero Go.wp_at_succ

theorem keptU_below {n : Nat} {gr : Nat → Nat} {a w w' : World} (h : Kept (fun _ i => OwnU n gr i) a w) (hb : Below w.heap.size w w') : Kept (fun _ i => OwnU n gr i) a w' :=
  h.trans ⟨hb.os, hb.tape, hb.output, hb.size, fun i hi _ => hb.block i hi, fun _ _ h => h⟩
theorem any_range_hit {g : Nat → Bool} {n x : Nat} (hx : x < n) (h : g x = true) : (List.range n).any g = true := List.any_eq_true.2 ⟨x, List.mem_range.2 hx, h⟩
theorem any_range_miss {g : Nat → Bool} {n : Nat} (h : ∀ x, x < n → g x = false) : (List.range n).any g = false := List.any_eq_false.2 fun x hx => by rw [h x (List.mem_range.1 hx)]; simp
section
variable (n : Nat) (b : List (List Int)) (w0 : World) (B : Option Addr) (cb gU cU : Nat) (gr : Nat → Nat)
set_option maxRecDepth 100000 in
set_option maxHeartbeats 8000000 in
theorem f69_step (hb : IsFull n b) (hs : Beds w0 B n cb b) (hn5 : n ≤ 5) (hgr : ∀ r, r < n → w0.heap.size ≤ gr r) (f k : Nat) (hk : k < n) (j : Nat) (l : List Nat) (hl : l.length + (j + 1) = n) (hl1 : 0 < l.length) (hln : ∀ i, i < l.length → l.getD i 0 < n)
    (ih : ∀ c, c < n → PartC n b w0 B cb gU cU gr f k j (l ++ [c])) : PartC n b w0 B cb gU cU gr f k (j + 1) l := by
  intro o A c w hS hU hbel hA hcap hfree
  have HS := Lib.hid hS
  have HU := Lib.hid hU
  have HBL := Lib.hid hbel
  have HA := Lib.hid hA
  have HLN := Lib.hid hln
  have HIH := Lib.hid ih
  have HBED := Lib.hid hs
  have HFREE := Lib.hid hfree
  have HROW : Hid (∀ i, i < n → (b.getD i []).length = n) := hb.shape.2
  have HR : Hid (partF b n f k o (j + 1) l = (List.range n).any fun c => decide (o l.length c < 0) && okT b l c && partF b n f k o j (l ++ [c])) := partF_step b n f k o j l (by omega)
  have HOK : Hid (∀ x, x < n → rokT b l x l.length = okT b l x) := fun x hx => rokT_ok hb (by omega) hx hln
  have HROK : Hid (∀ x R, rokT b l x (R + 1) = (rokT b l x R && (decide (l.getD R 0 ≠ x) && decide (gAt b R (l.getD R 0) ≠ gAt b l.length x)))) := fun x R => rokT_succ b l x R
  have HR0 : Hid (∀ x, rokT b l x 0 = true) := fun x => rfl
  have HKB : Hid (∀ w', Kept (fun _ i => OwnU n gr i) w w' → Below w0.heap.size w0 w') := Lib.hid fun w' k => k.below hbel hbel.size (fun i ⟨r, hr, e⟩ => by rw [e]; exact hgr r hr)
  obtain ⟨r, hr⟩ : ∃ z, z = l.length := ⟨_, rfl⟩
  have HRL := Lib.hid hr
  have HKA : Hid (∀ w', Kept (fun _ i => OwnU n gr i) w w' → Ints w' A r (zs l)) := Lib.hid fun w' k => by rw [hr]; exact (hA.kept k hl1).1
  rw [← hr] at hl HROK HOK HR hcap ⊢
  have hrn : r < n := by omega
  have hr1 : 0 < r := by omega
  have hq : ((r : Int) == (n : Int)) = false := by simp; omega
  have r0 : (0 : Int) ≤ (r : Int) := by omega
  have rn : (r : Int) < (n : Int) := by omega
  obtain ⟨gA, oA, hAA, _⟩ := (HKA.out w (Kept.refl _ _)).at_ hr1
  subst hAA
  clear hb hs hS hU hbel hA hfree hln ih hr hl hl1
  go_enter Tryd.func69, Tryd.ntmps69
  go_wp2
  go_loopw [14] (fun ci wr => ∃ x : Nat, x ≤ n ∧ ci = .int .i64 (x : Int) ∧ Hid (∀ y, y < x → (decide (o r y < 0) && okT b l y && partF b n f k o j (l ++ [y])) = false) ∧ Kept (fun _ i => OwnU n gr i) w wr ∧ UsedM wr gU gr n (usedO o)) (fun ci _ => n - (intOf ci).toNat)
  case atStart => exact ⟨0, by omega, rfl, fun y hy => absurd hy (by omega), Kept.refl _ _, HU.out⟩
  case round => as_aux_lemma =>
    obtain ⟨x, hx, rfl, hno, hk', hu⟩ := hrel
    have HK := Lib.hid hk'
    have HUr := Lib.hid hu
    have HNO := Lib.hid hno.out
    by_cases hxn : x < n
    · have c1 := hu.hdr r hrn
      have c2 := hu.val r x hrn hxn
      have x0 : (0 : Int) ≤ (x : Int) := by omega
      have xn : (x : Int) < (n : Int) := by omega
      have HNX : Hid ((decide (o r x < 0) && okT b l x && partF b n f k o j (l ++ [x])) = false → ∀ y, y < x + 1 → (decide (o r y < 0) && okT b l y && partF b n f k o j (l ++ [y])) = false) := Lib.hid fun h y hy => by
        rcases Nat.lt_or_ge y x with h1 | h1
        · exact HNO.out y h1
        · obtain rfl : y = x := by omega
          exact h
      have HV : Hid ((!usedO o r x) = decide (o r x < 0)) := Lib.hid (by
        unfold usedO
        by_cases h : o r x < 0
        · rw [decide_eq_true h, decide_eq_false (by omega)]; rfl
        · rw [decide_eq_false h, decide_eq_true (by omega)]; rfl)
      generalize usedO o r x = ux at *
      clear hno hk' hu
      go_wp2
      go_loopw [16, 15] (fun ii oi wi => ∃ i : Nat, i ≤ r ∧ ii = .int .i64 (i : Int) ∧ oi = .bool (!ux && rokT b l x i) ∧ ∃ q, wi = wr.drewN q) (fun ii _ _ => r - (intOf ii).toNat)
      case atStart => exact ⟨0, by omega, rfl, by rw [HR0.out, Bool.and_true], 0, rfl⟩
      case round => as_aux_lemma =>
        obtain ⟨i, hir, rfl, rfl, q, rfl⟩ := hrel
        by_cases hi : i < r
        · have HN := Lib.hid (HROK.out x i)
          have hxi := HLN.out i (by have := HRL.out; omega)
          obtain ⟨a1, o1, eA1, hc1⟩ := (HKA.out wr HK.out).at_ hi
          injection eA1 with eA1
          injection eA1 with eA2 eA3
          subst eA2 eA3
          rw [zs_get] at hc1
          have HBB := HBED.out.below (HKB.out wr HK.out)
          obtain ⟨g2, o2, eB, B2, d2, hc2, _, _, hi2⟩ := HBB.at_ (show i < n by omega)
          obtain ⟨g3, o3, eB3, B3, d3, hc3, _, _, hi3⟩ := HBB.at_ hrn
          rw [eB] at eB3
          injection eB3 with eB3
          injection eB3 with e1 e2
          subst e1 e2
          rw [HROW.out i (by omega)] at hc2 hi2
          rw [HROW.out r hrn] at hc3 hi3
          obtain ⟨g4, o4, rfl, hc4⟩ := hi2.at_ hxi
          obtain ⟨g5, o5, rfl, hc5⟩ := hi3.at_ hxn
          have hg4 : (b.getD i []).getD (l.getD i 0) 0 = gAt b i (l.getD i 0) := rfl
          have hg5 : (b.getD r []).getD x 0 = gAt b r x := rfl
          rw [hg4] at hc4
          rw [hg5] at hc5
          subst eB
          generalize gAt b i (l.getD i 0) = u at *
          generalize gAt b r x = v at *
          generalize l.getD i 0 = y at *
          have i0 : (0 : Int) ≤ (i : Int) := by omega
          have ir : (i : Int) < (r : Int) := by omega
          have inn : (i : Int) < (n : Int) := by omega
          have y0 : (0 : Int) ≤ (y : Int) := by omega
          have yn : (y : Int) < (n : Int) := by omega
          clear hi2 hi3 HBB c1 c2
          cases hf : (!ux && rokT b l x i)
          · have HN' : Hid ((!ux && rokT b l x (i + 1)) = false) := Lib.hid (by rw [HN.out, ← Bool.and_assoc, hf, Bool.false_and])
            clear hf HN
            go_wp2
            go_quiet (fail)
            go_wp2
            go_roundw
            case rel => exact ⟨i + 1, by omega, by go_num, by rw [HN'.out], by first | exact ⟨_, rfl⟩ | exact ⟨_, World.drewN_drewN _ _ _⟩⟩
            case measure => simp [intOf]; omega
          · by_cases h1 : y = x
            · have hq1 : ((y : Int) != (x : Int)) = false := by simp; omega
              have HN' : Hid ((!ux && rokT b l x (i + 1)) = false) := Lib.hid (by rw [HN.out, decide_eq_false (by simpa using h1), Bool.false_and, Bool.and_false, Bool.and_false])
              clear HN h1 hf
              go_wp2
              go_quiet (fail)
              go_wp2
              go_roundw
              case rel => exact ⟨i + 1, by omega, by go_num, by rw [HN'.out], by first | exact ⟨_, rfl⟩ | exact ⟨_, World.drewN_drewN _ _ _⟩⟩
              case measure => simp [intOf]; omega
            · have hq1 : ((y : Int) != (x : Int)) = true := by simp; omega
              have HN' : Hid ((!ux && rokT b l x (i + 1)) = (u != v)) := Lib.hid (by
                rw [HN.out, ← Bool.and_assoc, hf, Bool.true_and, decide_eq_true (by simpa using h1), Bool.true_and]
                by_cases h2 : u = v
                · simp [h2]
                · simp [h2])
              clear HN h1 hf
              go_wp2
              go_quiet (fail)
              go_wp2
              go_roundw
              case rel => exact ⟨i + 1, by omega, by go_num, by rw [HN'.out], by first | exact ⟨_, rfl⟩ | exact ⟨_, World.drewN_drewN _ _ _⟩⟩
              case measure => simp [intOf]; omega
        · obtain rfl : i = r := by omega
          have HOKx := HOK.out x hxn
          rw [HOKx]
          cases hok : (!ux && okT b l x)
          · have HE := Lib.hid (HNX.out (by rw [← HV.out, hok, Bool.false_and]))
            clear hok HOKx c1 c2
            go_wp2
            go_roundw
            case rel => exact ⟨x + 1, by omega, by go_num, HE.out, HK.out.likeU rfl rfl rfl rfl, HUr.out.heap rfl⟩
            case measure => simp [intOf]; omega
          · have hok2 := hok
            rw [Bool.and_eq_true] at hok2
            obtain ⟨ho1, ho2⟩ := hok2
            rw [HV.out] at ho1
            have hneg : o i x < 0 := of_decide_eq_true ho1
            obtain ⟨N, hN⟩ : ∃ z, z = partF b n f k o j (l ++ [x]) := ⟨_, rfl⟩
            have HHIT : Hid (N = true → partF b n f k o (j + 1) l = true) := Lib.hid fun h => by
              rw [HR.out]
              exact any_range_hit hxn (by rw [ho1, ho2, ← hN, h]; rfl)
            have HMISS : Hid (N = false → ∀ y, y < x + 1 → (decide (o i y < 0) && okT b l y && partF b n f k o j (l ++ [y])) = false) := Lib.hid fun h => HNX.out (by rw [← hN, h, Bool.and_false])
            have HFR2 : Hid (∀ p, p < (l ++ [x]).length → o p ((l ++ [x]).getD p 0) < 0) := Lib.hid fun p hp => by
              rw [List.length_append, List.length_singleton] at hp
              rcases Nat.lt_or_ge p l.length with h3 | h3
              · rw [getD_app1 h3]; exact HFREE.out p h3
              · obtain rfl : p = l.length := by omega
                rw [getD_app2, ← HRL.out]; exact hneg
            obtain ⟨wq, hwq⟩ : ∃ z, z = wr.drewN q := ⟨_, rfl⟩
            have KQ : Hid (Kept (fun _ i => OwnU n gr i) w wq) := Lib.hid (by rw [hwq]; exact HK.out.likeU rfl rfl rfl rfl)
            have UQ : Hid (UsedM wq gU gr n (usedO o)) := Lib.hid (by rw [hwq]; exact HUr.out.heap rfl)
            have HIQ := Lib.hid (HKA.out wq KQ.out)
            have hcn := cell_new wq #[.int .i64 (x : Int)] 3 0
            have IHX := Lib.hid (HIH.out x hxn)
            have HNN := Lib.hid hN
            rw [← hwq]
            clear hok HOKx c1 c2 ho1 ho2 hneg hwq hN
            go_wp2_with (at_builtin; refine wpList_growI (by kernel_rfl) (.tmp 113) (.tmp 115) rfl (some ⟨gA, oA, none⟩) i l rfl HRL.out.symm (fun h => by cases h) ?hi wq.heap.size 1 x rfl hcn (by omega) ?hr)
            case hi => exact HIQ.out.below (below_alloc wq _)
            case hr =>
              intro A2 c2 w3 hin2 hne2 hc2 hb2
              rw [show wq.heap.size + 1 = (wq.alloc (.cells #[.int .i64 (x : Int)] 3)).heap.size from by simp] at hin2 hb2
              have UA := UQ.out.below (below_alloc wq (.cells #[.int .i64 (x : Int)] 3))
              have K3 := Lib.hid (keptU_below (keptU_below KQ.out (below_alloc wq (.cells #[.int .i64 (x : Int)] 3))) hb2)
              have U3 := Lib.hid (UA.below hb2)
              have hint : IntsN (fun _ i => OwnU n gr i) w3 A2 (l ++ [x]) := ⟨hin2.1, fun g o' e ⟨p, hp, e2⟩ => hin2.2 g o' e (by
                have h := lt_of_cell (UA.val p 0 hp (by omega))
                rw [e2]; exact h)⟩
              have K69 := IHX.out o A2 c2 w3 HS.out U3.out (HKB.out w3 K3.out) hint (by rw [List.length_append, ← HRL.out]; exact hc2) HFR2.out
              have el : (l ++ [x]).length = i + 1 := by rw [List.length_append, ← HRL.out]; rfl
              rw [el, ← HNN.out] at K69
              have K69 := Lib.hid K69
              clear hin2 hne2 hc2 hb2 UA hint hcn el
              go_wp2_with fail
              refine K69.out.mono ?_
              rintro e w4 ⟨rfl, hk4, hu4⟩
              have K4 := Lib.hid (K3.out.trans hk4)
              have U4 := Lib.hid hu4
              clear hk4 hu4 K69 HNN
              cases N
              · have HE := Lib.hid (HMISS.out rfl)
                go_wp2
                go_roundw
                case rel => exact ⟨x + 1, by omega, by go_num, HE.out, K4.out, U4.out⟩
                case measure => simp [intOf]; omega
              · have HE := Lib.hid (HHIT.out rfl)
                go_wp2
                go_ret
                exact ⟨ret_bool HE.out.symm, K4.out, U4.out⟩
    · obtain rfl : x = n := by omega
      have HF : Hid (partF b x f k o (j + 1) l = false) := Lib.hid (by rw [HR.out]; exact any_range_miss HNO.out)
      clear hno hk' hu
      go_wp2
      go_ret
      exact ⟨ret_bool HF.out.symm, HK.out, HUr.out⟩
end
end Go.Proofs.YtiodednhadnekaaDoor
