/- Walks: the specification's transversals. -/
import Derived.Test.YtiodednhadnekaaDoorW33
namespace Go.Proofs.YtiodednhadnekaaDoor
open Go.RowKit Go.Deep
attribute [local go_sem ↓] Go.wp_at_zero Go.wp_at_succ

def rokT (b : List (List Int)) (l : List Nat) (c : Nat) (R : Nat) : Bool := (List.range R).all fun i => decide (l.getD i 0 ≠ c) && decide (gAt b i (l.getD i 0) ≠ gAt b l.length c)
theorem rokT_succ (b : List (List Int)) (l : List Nat) (c R : Nat) : rokT b l c (R + 1) = (rokT b l c R && (decide (l.getD R 0 ≠ c) && decide (gAt b R (l.getD R 0) ≠ gAt b l.length c))) := by
  unfold rokT
  rw [List.range_succ, List.all_append]
  simp
theorem rokT_ok {b : List (List Int)} {n c : Nat} {l : List Nat} (hb : IsFull n b) (hl : l.length < n) (hc : c < n) (hln : ∀ i, i < l.length → l.getD i 0 < n) : rokT b l c l.length = okT b l c := by
  have h1 : (colsM l).testBit c = true ↔ ∃ i, i < l.length ∧ l.getD i 0 = c := by
    unfold colsM
    rw [bit_orN]
    simp only [Nat.testBit_two_pow, decide_eq_true_eq]
  have h2 : (cropsM b l).testBit (gAt b l.length c).toNat = true ↔ ∃ i, i < l.length ∧ gAt b i (l.getD i 0) = gAt b l.length c := by
    unfold cropsM
    rw [bit_orN]
    simp only [Nat.testBit_two_pow, decide_eq_true_eq]
    constructor
    · rintro ⟨i, hi, e⟩
      have a1 := (hb.lo i (l.getD i 0) (by omega) (hln i hi)).1
      have a2 := (hb.lo l.length c hl hc).1
      exact ⟨i, hi, by omega⟩
    · rintro ⟨i, hi, e⟩
      exact ⟨i, hi, by rw [e]⟩
  have h3 : rokT b l c l.length = true ↔ okT b l c = true := by
    unfold rokT okT
    rw [List.all_eq_true, Bool.and_eq_true, Bool.not_eq_true', Bool.not_eq_true', ← Bool.not_eq_true, ← Bool.not_eq_true, h1, h2]
    constructor
    · intro h
      refine ⟨fun ⟨i, hi, e⟩ => ?_, fun ⟨i, hi, e⟩ => ?_⟩
      · have h6 := h i (List.mem_range.2 hi)
        rw [Bool.and_eq_true, decide_eq_true_eq] at h6
        exact h6.1 e
      · have h6 := h i (List.mem_range.2 hi)
        rw [Bool.and_eq_true, decide_eq_true_eq, decide_eq_true_eq] at h6
        exact h6.2 e
    · rintro ⟨h4, h5⟩ i hi
      have hi := List.mem_range.1 hi
      simp only [Bool.and_eq_true, decide_eq_true_eq]
      exact ⟨fun e => h4 ⟨i, hi, e⟩, fun e => h5 ⟨i, hi, e⟩⟩
  cases h : rokT b l c l.length <;> cases h' : okT b l c <;> simp_all
/-- The first of what is found, as a list of rows. -/
def firstL (L : List (List Int)) (T : List (List Nat)) : List (List Int) := if L = [] then (T.take 1).map zs else L
theorem firstL_nil (L : List (List Int)) : firstL L [] = L := by unfold firstL; split <;> simp_all
theorem firstL_app (L : List (List Int)) (T U : List (List Nat)) : firstL L (T ++ U) = firstL (firstL L T) U := by
  unfold firstL
  by_cases h : L = []
  · rw [if_pos h, if_pos h]
    cases T with
    | nil => simp
    | cons t T => simp
  · rw [if_neg h, if_neg h, if_neg h]
section
variable (n : Nat) (b : List (List Int)) (w0 : World) (B : Option Addr) (cb : Nat)
def TrC (k : Nat) (l : List Nat) : Prop := ∀ (L : List (List Int)) (A F : Option Addr) (c m d : Nat) (w : World), Below w0.heap.size w0 w → Ints w A l.length (zs l) → (A = none → l.length = 0 ∧ c = 0) → Beds w F m d L →
  Calls Tryd.prog 75 #[.slice B n cb, .slice A l.length c, .slice F m d] w fun e w' => ∃ F' m' d', e = .returned (.tuple #[.int .i64 ((trF b n k l).length : Int), .slice F' m' d']) ∧ Beds w' F' m' d' (firstL L (trF b n k l)) ∧ Below w.heap.size w w'
set_option maxRecDepth 100000 in
set_option maxHeartbeats 4000000 in
theorem f75_end (hn7 : n ≤ 7) (l : List Nat) (hl : l.length = n) : TrC n b w0 B cb 0 l := by
  intro L A F c m d w hbel hi hnil hF
  have hml := hF.len
  have hmsm := hF.small
  have HF := Lib.hid hF
  have HI := Lib.hid hi
  have hT : trF b n 0 l = [l] := rfl
  rw [hT]
  rw [hl] at hi hnil ⊢
  have hq : ((n : Int) == (n : Int)) = true := by simp
  have h1 : (([l] : List (List Nat)).length : Int) = 1 := rfl
  rw [h1]
  by_cases hL : L = []
  · have hm0 : m = 0 := by rw [← hml, hL]; rfl
    have HL : Hid (firstL L [l] = [zs l]) := by unfold firstL; rw [if_pos hL]; rfl
    have hzl : (zs l).length = n := by rw [zs_len]; exact hl
    subst hm0
    clear hF hT hbel
    go_enter Tryd.func75, Tryd.ntmps75
    go_wp2_with (at_builtin; refine wpList_pushAll rfl (.tmp 26) (.tmp 27) rfl w.heap.size (.slice none 0 0) [] rfl (Row.nil _ _) A n c (zs l) rfl ?hn ?hi ?hl ?hb ?hr)
    case hn => exact hnil
    case hi => exact hi
    case hl => simp; omega
    case hb => exact Nat.le_refl _
    case hr =>
      intro v1 w1 hr1 hg1
      have hb1 : Below w.heap.size w w1 := below_of_none hg1
      obtain ⟨A1, c1, rfl, hi1, hc1⟩ := hr1.form3 (by omega)
      rw [hzl] at hi1 hc1
      have HN1 : Hid (A1 = none → (zs l).length = 0 ∧ c1 = 0) := by
        intro e
        rcases hr1.2 with ⟨e2, hn2⟩ | ⟨g, cap, cur, e2, _⟩
        · injection e2 with _ _ e3; exact ⟨hn2, e3⟩
        · rw [e] at e2; cases e2
      have HB5 : Hid (Beds (w1.alloc (.cells #[.slice A1 n c1] 29)) (some ⟨w1.heap.size, 0, none⟩) 1 1 [zs l]) := by
        refine ⟨rfl, by omega, by omega, fun h => (by cases h), fun _ => ⟨_, 0, rfl, fun j hj => ?_⟩⟩
        obtain rfl : j = 0 := by omega
        refine ⟨A1, c1, ?_, ?_, ?_, ?_⟩
        · have := cell_new w1 #[.slice A1 n c1] 29 0
          rw [Nat.add_zero, this]
          show some (Value.slice A1 n c1) = some (.slice A1 (zs l).length c1)
          rw [hzl]
        · show (zs l).length ≤ c1; rw [hzl]; exact hc1
        · exact HN1.out
        · show Ints _ A1 (zs l).length (zs l)
          rw [hzl]; exact hi1.below (below_alloc w1 _)
      have HB1 := Lib.hid (hb1.alloc hb1.size (.cells #[.slice A1 n c1] 29))
      clear hr1 hg1 hb1 hi1
      rw [hzl]
      go_wp2
      go_ret2
      exact ⟨_, _, _, rfl, by rw [HL.out]; exact HB5.out, HB1.out⟩
  · have hm0 : m ≠ 0 := by
      intro e
      rw [e] at hml
      exact hL (List.eq_nil_of_length_eq_zero hml)
    have HL : Hid (firstL L [l] = L) := by unfold firstL; rw [if_neg hL]; rfl
    have hq2 : ((m : Int) == 0) = false := by simp; omega
    clear hF hT hbel hi
    go_enter Tryd.func75, Tryd.ntmps75
    go_wp2
    go_ret2
    exact ⟨F, m, d, rfl, by rw [HL.out]; exact HF.out, Below.refl _ _⟩
set_option maxRecDepth 100000 in
set_option maxHeartbeats 8000000 in
theorem f75_step (hb : IsFull n b) (hs : Beds w0 B n cb b) (hn7 : n ≤ 7) (k : Nat) (l : List Nat) (hl : l.length + (k + 1) = n) (hln : ∀ i, i < l.length → l.getD i 0 < n)
    (ih : ∀ c, c < n → TrC n b w0 B cb k (l ++ [c])) : TrC n b w0 B cb (k + 1) l := by
  intro L A F c m d w hbel hi hnil hF
  have HS := Lib.hid (hs.below hbel)
  have HBW := Lib.hid hbel
  have HI := Lib.hid hi
  have HFF := Lib.hid hF
  have HIH := Lib.hid ih
  have HLN := Lib.hid hln
  have HNIL := Lib.hid hnil
  have HROW : Hid (∀ i, i < n → (b.getD i []).length = n) := hb.shape.2
  have HLO : Hid (∀ i j, i < n → j < n → 0 ≤ gAt b i j ∧ gAt b i j < n) := fun i j h1 h2 => hb.lo i j h1 h2
  have HOK : Hid (∀ x, x < n → rokT b l x l.length = okT b l x) := fun x hx => rokT_ok hb (by omega) hx hln
  have HSUC : Hid (trF b n (k + 1) l = trTo b n k l n) := rfl
  have HTC : Hid (∀ x, trTo b n k l (x + 1) = trTo b n k l x ++ trC b n k l x) := trTo_succ b n k l
  have HTD : Hid (∀ x, trC b n k l x = if okT b l x = true then trF b n k (l ++ [x]) else []) := fun x => rfl
  have HMANY : Hid (∀ x, x ≤ n → (trTo b n k l x).length ≤ 1000000) := fun x hx => by
    obtain ⟨t, ht⟩ := trTo_pre (b := b) (n := n) (k := k) (l := l) hx
    have h1 := trF_len b n (k + 1) l
    have h2 : n ^ (k + 1) ≤ 7 ^ 7 := Nat.le_trans (Nat.pow_le_pow_left hn7 _) (Nat.pow_le_pow_right (by decide) (by omega))
    have h3 : 7 ^ 7 = 823543 := by decide
    rw [HSUC.out, ht, List.length_append] at h1
    omega
  have HROK : Hid (∀ x R, rokT b l x (R + 1) = (rokT b l x R && (decide (l.getD R 0 ≠ x) && decide (gAt b R (l.getD R 0) ≠ gAt b l.length x)))) := fun x R => rokT_succ b l x R
  have HR0 : Hid (∀ x, rokT b l x 0 = true) := fun x => rfl
  have HZL : Hid ((zs l).length = l.length) := zs_len l
  obtain ⟨r, hr⟩ : ∃ z, z = l.length := ⟨_, rfl⟩
  have HR := Lib.hid hr
  rw [← hr] at hl hi hnil HI HROK HOK HZL HNIL ⊢
  have hrn : r < n := by omega
  have hq : ((r : Int) == (n : Int)) = false := by simp; omega
  have r0 : (0 : Int) ≤ (r : Int) := by omega
  have rn : (r : Int) < (n : Int) := by omega
  clear hb hs hbel hi hnil hF hln ih hr
  go_enter Tryd.func75, Tryd.ntmps75
  go_wp2
  go_loopw [11, 10, 2] (fun ci mi fi wr => ∃ (x M : Nat) (F' : Option Addr) (m' d' : Nat), x ≤ n ∧ ci = .int .i64 (x : Int) ∧ M = (trTo b n k l x).length ∧ mi = .int .i64 (M : Int) ∧ fi = .slice F' m' d' ∧ Beds wr F' m' d' (firstL L (trTo b n k l x)) ∧ Below w.heap.size w wr) (fun ci _ _ _ => n - (intOf ci).toNat)
  case atStart => exact ⟨0, 0, F, m, d, by omega, rfl, rfl, rfl, rfl, by rw [trTo_zero, firstL_nil]; exact HFF.out, Below.refl _ _⟩
  case round => as_aux_lemma =>
    obtain ⟨x, M, F', m', d', hx, rfl, hM, rfl, rfl, hF, hbel⟩ := hrel
    have HF := Lib.hid hF
    have HB := Lib.hid hbel
    have HM := Lib.hid hM
    by_cases hxn : x < n
    · have x0 : (0 : Int) ≤ (x : Int) := by omega
      have xn : (x : Int) < (n : Int) := by omega
      clear hF hbel hM
      go_wp2
      go_loopw [13, 12] (fun ii oi wi => ∃ i : Nat, i ≤ r ∧ ii = .int .i64 (i : Int) ∧ oi = .bool (rokT b l x i) ∧ ∃ q, wi = wr.drewN q) (fun ii _ _ => r - (intOf ii).toNat)
      case atStart => exact ⟨0, by omega, rfl, by rw [HR0.out], 0, rfl⟩
      case round => as_aux_lemma =>
        obtain ⟨i, hir, rfl, rfl, q, rfl⟩ := hrel
        by_cases hi : i < r
        · have HN := Lib.hid (HROK.out x i)
          have hxi := HLN.out i (by have := HR.out; omega)
          obtain ⟨a1, o1, rfl, hc1⟩ := (HI.out.below HB.out).at_ hi
          rw [zs_get] at hc1
          obtain ⟨g2, o2, eB, B2, d2, hc2, _, _, hi2⟩ := (HS.out.below HB.out).at_ (show i < n by omega)
          obtain ⟨g3, o3, eB3, B3, d3, hc3, _, _, hi3⟩ := (HS.out.below HB.out).at_ hrn
          rw [eB] at eB3
          injection eB3 with eB3
          injection eB3 with e1 e2
          subst e1 e2
          rw [HROW.out i (by omega)] at hc2 hi2
          rw [HROW.out r hrn] at hc3 hi3
          obtain ⟨g4, o4, rfl, hc4⟩ := hi2.at_ hxi
          obtain ⟨g5, o5, rfl, hc5⟩ := hi3.at_ hxn
          have hg4 : (b.getD i []).getD (l.getD i 0) 0 = gAt b i (l.getD i 0) := rfl
          have hg5 : (b.getD r []).getD x 0 = gAt b r x := rfl
          rw [hg4] at hc4
          rw [hg5] at hc5
          subst eB
          generalize gAt b i (l.getD i 0) = u at *
          generalize gAt b r x = v at *
          generalize l.getD i 0 = y at *
          have i0 : (0 : Int) ≤ (i : Int) := by omega
          have ir : (i : Int) < (r : Int) := by omega
          have inn : (i : Int) < (n : Int) := by omega
          have y0 : (0 : Int) ≤ (y : Int) := by omega
          have yn : (y : Int) < (n : Int) := by omega
          clear hi2 hi3
          cases hf : rokT b l x i
          · rw [hf, Bool.false_and] at HN
            have HN' := Lib.hid HN.out
            clear hf HN
            go_wp2
            go_quiet (fail)
            go_wp2
            go_roundw
            case rel => exact ⟨i + 1, by omega, by go_num, by rw [HN'.out], by first | exact ⟨_, rfl⟩ | exact ⟨_, World.drewN_drewN _ _ _⟩⟩
            case measure => simp [intOf]; omega
          · rw [hf, Bool.true_and] at HN
            clear hf
            by_cases h1 : y = x
            · have hq1 : ((y : Int) != (x : Int)) = false := by simp; omega
              have HN' : Hid (rokT b l x (i + 1) = false) := Lib.hid (by rw [HN.out, decide_eq_false (by simpa using h1), Bool.false_and])
              clear HN h1
              go_wp2
              go_quiet (fail)
              go_wp2
              go_roundw
              case rel => exact ⟨i + 1, by omega, by go_num, by rw [HN'.out], by first | exact ⟨_, rfl⟩ | exact ⟨_, World.drewN_drewN _ _ _⟩⟩
              case measure => simp [intOf]; omega
            · have hq1 : ((y : Int) != (x : Int)) = true := by simp; omega
              have HN' : Hid (rokT b l x (i + 1) = (u != v)) := Lib.hid (by
                rw [HN.out, decide_eq_true (by simpa using h1), Bool.true_and]
                by_cases h2 : u = v
                · simp [h2]
                · simp [h2])
              clear HN h1
              go_wp2
              go_quiet (fail)
              go_wp2
              go_roundw
              case rel => exact ⟨i + 1, by omega, by go_num, by rw [HN'.out], by first | exact ⟨_, rfl⟩ | exact ⟨_, World.drewN_drewN _ _ _⟩⟩
              case measure => simp [intOf]; omega
        · obtain rfl : i = r := by omega
          have HOKx := HOK.out x hxn
          cases hok : okT b l x
          · rw [hok] at HOKx
            rw [HOKx]
            have HE : Hid (trTo b n k l (x + 1) = trTo b n k l x) := Lib.hid (by rw [HTC.out, HTD.out, hok]; simp)
            clear hok
            go_wp2
            go_roundw
            case rel => exact ⟨x + 1, M, F', m', d', by omega, by go_num, by rw [HE.out]; exact HM.out, rfl, rfl, by rw [HE.out]; exact HF.out.drewN q, below_drewN HB.out q⟩
            case measure => simp [intOf]; omega
          · rw [hok] at HOKx
            rw [HOKx]
            obtain ⟨N, hN⟩ : ∃ z, z = (trF b n k (l ++ [x])).length := ⟨_, rfl⟩
            have HE : Hid (trTo b n k l (x + 1) = trTo b n k l x ++ trF b n k (l ++ [x])) := Lib.hid (by rw [HTC.out, HTD.out, hok]; rfl)
            have hMN : M + N ≤ 1000000 := by
              have h1 := HMANY.out (x + 1) (by omega)
              rw [HE.out, List.length_append, ← HM.out, ← hN] at h1
              exact h1
            obtain ⟨wq, hwq⟩ : ∃ z, z = wr.drewN q := ⟨_, rfl⟩
            have HFq : Hid (Beds wq F' m' d' (firstL L (trTo b n k l x))) := Lib.hid (by rw [hwq]; exact HF.out.drewN q)
            have HBq : Hid (Below w.heap.size w wq) := Lib.hid (by rw [hwq]; exact below_drewN HB.out q)
            have HIq := Lib.hid (HI.out.below HBq.out)
            have IH := Lib.hid (HIH.out x hxn)
            rw [← hwq]
            clear hok hwq
            go_wp2_with (at_builtin; refine wpList_pushAll rfl (.tmp 72) (.tmp 73) rfl wq.heap.size (.slice none 0 0) [] rfl (Row.nil _ _) A i c (zs l) rfl ?hn ?hi ?hl ?hb ?hr)
            case hn => exact HNIL.out
            case hi => exact HIq.out
            case hl => simp; omega
            case hb => exact Nat.le_refl _
            case hr =>
              intro v1 w1 hr1 hg1
              have hb1 : Below wq.heap.size wq w1 := below_of_none hg1
              have HR1 : Hid (Row w1 wq.heap.size v1 (zs l)) := hr1
              have HB1 := Lib.hid hb1
              have HNEW : Hid (Own (w1.alloc (.cells #[.int .i64 (x : Int)] 3)) w1.heap.size [(x : Int)]) := heap_alloc_new w1 _
              clear hr1 hg1 hb1
              go_wp2_with (at_builtin; refine wpList_pushAll rfl (.tmp 77) (.tmp 79) rfl wq.heap.size v1 (zs l) rfl (HR1.out.alloc _) (some ⟨w1.heap.size, 0, none⟩) 1 1 [(x : Int)] rfl ?hn ?hi ?hl ?hb ?hr)
              case hn => exact fun h => by cases h
              case hi => exact HNEW.out.ints' rfl (by omega)
              case hl => rw [HZL.out]; omega
              case hb => exact (HB1.out.alloc HB1.out.size _).size
              case hr =>
                intro v2 w2 hr2 hg2
                have hb2 : Below wq.heap.size wq w2 := below_grown (HB1.out.alloc HB1.out.size _) hg2 (HB1.out.alloc HB1.out.size _).size (HR1.out.alloc _) (Nat.le_refl _)
                have ez : zs l ++ [(x : Int)] = zs (l ++ [x]) := (zs_app l [x]).symm
                rw [ez] at hr2
                have el : (l ++ [x]).length = i + 1 := by rw [List.length_append, HR.out]; rfl
                have ezl : (zs (l ++ [x])).length = i + 1 := by rw [zs_len]; exact el
                obtain ⟨A2, c2, rfl, hi2, hc2⟩ := hr2.form3 (by omega)
                rw [ezl] at hi2 hc2
                have hA2 : A2 = none → (i + 1 : Nat) = 0 ∧ c2 = 0 := fun e => by
                  obtain ⟨_, _, e3, _⟩ := hi2.at_ (show 0 < i + 1 by omega)
                  rw [e] at e3; cases e3
                have K75 := IH.out (firstL L (trTo b n k l x)) A2 F' c2 m' d' w2 ((HBW.out.trans (HBq.out.mono HBW.out.size)).trans (hb2.mono (by have := HBW.out.size; have := HBq.out.size; omega))) (by rw [el]; exact hi2) (by rw [el]; exact hA2) (HFq.out.below hb2)
                rw [el, ← firstL_app, ← HE.out, ← hN] at K75
                have K75 := Lib.hid K75
                have HB2 := Lib.hid hb2
                have HM2 : Hid (M + N = (trTo b n k l (x + 1)).length) := Lib.hid (by rw [HE.out, List.length_append, ← HM.out, ← hN])
                rw [ezl]
                clear hr2 hg2 hi2 hb2 ez hN
                go_wp2_with fail
                refine K75.out.mono ?_
                rintro e w3 ⟨F3, m3, d3, rfl, h1, h2⟩
                have HF3 := Lib.hid h1
                have HB3 : Hid (Below w.heap.size w w3) := Lib.hid ((HBq.out.trans (HB2.out.mono HBq.out.size)).trans (h2.mono (by have := HBq.out.size; have := HB2.out.size; omega)))
                clear h1 h2
                go_wp2
                go_roundw
                case rel => exact ⟨x + 1, M + N, F3, m3, d3, by omega, by go_num, HM2.out, by go_num, rfl, HF3.out, HB3.out⟩
                case measure => simp [intOf]; omega
    · obtain rfl : x = n := by omega
      have HT : Hid (trF b x (k + 1) l = trTo b x k l x) := HSUC.out
      clear hF hbel hM
      go_wp2
      go_ret2
      exact ⟨F', m', d', by rw [HT.out, ← HM.out]; rfl, by rw [HT.out]; exact HF.out, HB.out⟩
/-- dibberref01.transversals -/
theorem f75_any (hb : IsFull n b) (hs : Beds w0 B n cb b) (hn7 : n ≤ 7) : ∀ (k : Nat) (l : List Nat), l.length + k = n → (∀ i, i < l.length → l.getD i 0 < n) → TrC n b w0 B cb k l
  | 0, l, h, _ => f75_end n b w0 B cb hn7 l (by omega)
  | k + 1, l, h, hl => f75_step n b w0 B cb hb hs hn7 k l h hl fun c hc => f75_any hb hs hn7 k (l ++ [c]) (by simp; omega) (fun i hi => by
      rw [List.length_append, List.length_singleton] at hi
      rcases Nat.lt_or_ge i l.length with h3 | h3
      · rw [getD_app1 h3]; exact hl i h3
      · obtain rfl : i = l.length := by omega
        rw [getD_app2]; exact hc)
end
end Go.Proofs.YtiodednhadnekaaDoor
