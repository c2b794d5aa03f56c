/- Walks: the rows of the specification. -/
import Derived.Test.YtiodednhadnekaaDoorW70
namespace Go.Proofs.YtiodednhadnekaaDoor
open Go.RowKit Go.Deep
attribute [local go_sem ↓] Go.wp_at_zero Go.wp_at_succ

/-! ### plain -/
def oN (l : List Nat) (x i : Nat) : Bool := (List.range i).all fun j => decide (l.getD j 0 ≠ x)
def oS (s : List (List Int)) (q x R : Nat) : Bool := (List.range R).all fun r => decide (gAt s r q ≠ (x : Int))
theorem oN_succ (l : List Nat) (x i : Nat) : oN l x (i + 1) = (oN l x i && decide (l.getD i 0 ≠ x)) := by
  unfold oN; rw [List.range_succ, List.all_append]; simp
theorem oS_succ (s : List (List Int)) (q x R : Nat) : oS s q x (R + 1) = (oS s q x R && decide (gAt s R q ≠ (x : Int))) := by
  unfold oS; rw [List.range_succ, List.all_append]; simp
theorem okR_o (s : List (List Int)) (l : List Nat) (x : Nat) : okR s l x = (oN l x l.length && oS s l.length x s.length) := by
  rw [Bool.eq_iff_iff, okR_iff, Bool.and_eq_true]
  unfold oN oS
  rw [List.all_eq_true, List.all_eq_true]
  simp only [List.mem_range, decide_eq_true_eq]
def rwC (n : Nat) (s : List (List Int)) (k : Nat) (l : List Nat) (c : Nat) : List (List Nat) := if okR s l c = true then rowsF n s k (l ++ [c]) else []
def rwTo (n : Nat) (s : List (List Int)) (k : Nat) (l : List Nat) (c : Nat) : List (List Nat) := (List.range c).flatMap fun c => rwC n s k l c
theorem rwTo_succ (n : Nat) (s : List (List Int)) (k : Nat) (l : List Nat) (c : Nat) : rwTo n s k l (c + 1) = rwTo n s k l c ++ rwC n s k l c := by
  unfold rwTo; rw [List.range_succ, List.flatMap_append]; simp
theorem rwTo_zero (n : Nat) (s : List (List Int)) (k : Nat) (l : List Nat) : rwTo n s k l 0 = [] := rfl
theorem rwTo_pre {n : Nat} {s : List (List Int)} {k : Nat} {l : List Nat} {c d : Nat} (h : c ≤ d) : ∃ t, rwTo n s k l d = rwTo n s k l c ++ t := by
  induction d with
  | zero => obtain rfl : c = 0 := by omega
            exact ⟨[], by simp⟩
  | succ d ih =>
    rcases Nat.lt_or_ge c (d + 1) with h1 | h1
    · obtain ⟨t, ht⟩ := ih (by omega)
      exact ⟨t ++ rwC n s k l d, by rw [rwTo_succ, ht, List.append_assoc]⟩
    · obtain rfl : c = d + 1 := by omega
      exact ⟨[], by simp⟩
section
variable (n ms : Nat) (b : List (List Int)) (w0 : World) (B : Option Addr) (cb : Nat)
def RwC (k : Nat) (l : List Nat) : Prop := ∀ (L : List (List Int)) (A F : Option Addr) (c m d : Nat) (w : World), Below w0.heap.size w0 w → Ints w A l.length (zs l) → (A = none → l.length = 0 ∧ c = 0) → Beds w F m d L →
  Calls Tryd.prog 87 #[.int .i64 (n : Int), .slice B ms cb, .slice A l.length c, .slice F m d] w fun e w' => ∃ F' m' d', e = .returned (.tuple #[.int .i64 ((rowsF n b k l).length : Int), .slice F' m' d']) ∧ Beds w' F' m' d' (firstL L (rowsF n b k l)) ∧ Below w.heap.size w w'
set_option maxRecDepth 100000 in
set_option maxHeartbeats 4000000 in
theorem f87_end (hn7 : n ≤ 7) (l : List Nat) (hl : l.length = n) : RwC n ms b w0 B cb 0 l := by
  intro L A F c m d w hbel hi hnil hF
  have hml := hF.len
  have hmsm := hF.small
  have HF := Lib.hid hF
  have HI := Lib.hid hi
  have hT : rowsF n b 0 l = [l] := rfl
  rw [hT]
  rw [hl] at hi hnil ⊢
  have hq : ((n : Int) == (n : Int)) = true := by simp
  have h1 : (([l] : List (List Nat)).length : Int) = 1 := rfl
  rw [h1]
  by_cases hL : L = []
  · have hm0 : m = 0 := by rw [← hml, hL]; rfl
    have HL : Hid (firstL L [l] = [zs l]) := by unfold firstL; rw [if_pos hL]; rfl
    have hzl : (zs l).length = n := by rw [zs_len]; exact hl
    subst hm0
    clear hF hT hbel
    go_enter Tryd.func87, Tryd.ntmps87
    go_wp2_with (at_builtin; refine wpList_pushAll rfl (.tmp 26) (.tmp 27) rfl w.heap.size (.slice none 0 0) [] rfl (Row.nil _ _) A n c (zs l) rfl ?hn ?hi ?hl ?hb ?hr)
    case hn => exact hnil
    case hi => exact hi
    case hl => simp; omega
    case hb => exact Nat.le_refl _
    case hr =>
      intro v1 w1 hr1 hg1
      have hb1 : Below w.heap.size w w1 := below_of_none hg1
      obtain ⟨A1, c1, rfl, hi1, hc1⟩ := hr1.form3 (by omega)
      rw [hzl] at hi1 hc1
      have HN1 : Hid (A1 = none → (zs l).length = 0 ∧ c1 = 0) := by
        intro e
        rcases hr1.2 with ⟨e2, hn2⟩ | ⟨g, cap, cur, e2, _⟩
        · injection e2 with _ _ e3; exact ⟨hn2, e3⟩
        · rw [e] at e2; cases e2
      have HB5 : Hid (Beds (w1.alloc (.cells #[.slice A1 n c1] 29)) (some ⟨w1.heap.size, 0, none⟩) 1 1 [zs l]) := by
        refine ⟨rfl, by omega, by omega, fun h => (by cases h), fun _ => ⟨_, 0, rfl, fun j hj => ?_⟩⟩
        obtain rfl : j = 0 := by omega
        refine ⟨A1, c1, ?_, ?_, ?_, ?_⟩
        · have := cell_new w1 #[.slice A1 n c1] 29 0
          rw [Nat.add_zero, this]
          show some (Value.slice A1 n c1) = some (.slice A1 (zs l).length c1)
          rw [hzl]
        · show (zs l).length ≤ c1; rw [hzl]; exact hc1
        · exact HN1.out
        · show Ints _ A1 (zs l).length (zs l)
          rw [hzl]; exact hi1.below (below_alloc w1 _)
      have HB1 := Lib.hid (hb1.alloc hb1.size (.cells #[.slice A1 n c1] 29))
      clear hr1 hg1 hb1 hi1
      rw [hzl]
      go_wp2
      go_ret2
      exact ⟨_, _, _, rfl, by rw [HL.out]; exact HB5.out, HB1.out⟩
  · have hm0 : m ≠ 0 := by
      intro e
      rw [e] at hml
      exact hL (List.eq_nil_of_length_eq_zero hml)
    have HL : Hid (firstL L [l] = L) := by unfold firstL; rw [if_neg hL]; rfl
    have hq2 : ((m : Int) == 0) = false := by simp; omega
    clear hF hT hbel hi
    go_enter Tryd.func87, Tryd.ntmps87
    go_wp2
    go_ret2
    exact ⟨F, m, d, rfl, by rw [HL.out]; exact HF.out, Below.refl _ _⟩
set_option maxRecDepth 100000 in
set_option maxHeartbeats 8000000 in
theorem f87_step (hb : StartP n b) (hs : Beds w0 B ms cb b) (hn7 : n ≤ 7) (k : Nat) (l : List Nat) (hl : l.length + (k + 1) = n) (hln : ∀ i, i < l.length → l.getD i 0 < n)
    (ih : ∀ c, c < n → RwC n ms b w0 B cb k (l ++ [c])) : RwC n ms b w0 B cb (k + 1) l := by
  intro L A F c m d w hbel hi hnil hF
  have hms := hs.len
  have hmn : ms ≤ n := by have := hb.len; omega
  have HS := Lib.hid (hs.below hbel)
  have HBW := Lib.hid hbel
  have HI := Lib.hid hi
  have HFF := Lib.hid hF
  have HIH := Lib.hid ih
  have HLN := Lib.hid hln
  have HNIL := Lib.hid hnil
  have HROW : Hid (∀ i, i < ms → (b.getD i []).length = n) := Lib.hid fun i h => hb.row i (by omega)
  have HOK : Hid (∀ x, okR b l x = (oN l x l.length && oS b l.length x ms)) := Lib.hid fun x => by rw [okR_o, hms]
  have HSUC : Hid (rowsF n b (k + 1) l = rwTo n b k l n) := rfl
  have HTC : Hid (∀ x, rwTo n b k l (x + 1) = rwTo n b k l x ++ rwC n b k l x) := rwTo_succ n b k l
  have HTD : Hid (∀ x, rwC n b k l x = if okR b l x = true then rowsF n b k (l ++ [x]) else []) := fun x => rfl
  have HMANY : Hid (∀ x, x ≤ n → (rwTo n b k l x).length ≤ 1000000) := fun x hx => by
    obtain ⟨t, ht⟩ := rwTo_pre (s := b) (n := n) (k := k) (l := l) hx
    have h1 := rowsF_len n b (k + 1) l
    have h2 : n ^ (k + 1) ≤ 7 ^ 7 := Nat.le_trans (Nat.pow_le_pow_left hn7 _) (Nat.pow_le_pow_right (by decide) (by omega))
    have h3 : 7 ^ 7 = 823543 := by decide
    rw [HSUC.out, ht, List.length_append] at h1
    omega
  have HN1 : Hid (∀ x i, oN l x (i + 1) = (oN l x i && decide (l.getD i 0 ≠ x))) := Lib.hid fun x i => oN_succ l x i
  have HS1 : Hid (∀ x i, oS b l.length x (i + 1) = (oS b l.length x i && decide (gAt b i l.length ≠ (x : Int)))) := Lib.hid fun x i => oS_succ b l.length x i
  have HN0 : Hid (∀ x, oN l x 0 = true) := fun x => rfl
  have HS0 : Hid (∀ x, oS b l.length x 0 = true) := fun x => rfl
  have HZL : Hid ((zs l).length = l.length) := zs_len l
  obtain ⟨r, hr⟩ : ∃ z, z = l.length := ⟨_, rfl⟩
  have HR := Lib.hid hr
  rw [← hr] at hl hi hnil HI HOK HS1 HS0 HZL HNIL ⊢
  have hrn : r < n := by omega
  have hq : ((r : Int) == (n : Int)) = false := by simp; omega
  have r0 : (0 : Int) ≤ (r : Int) := by omega
  have rn : (r : Int) < (n : Int) := by omega
  clear hb hs hbel hi hnil hF hln ih hr hms
  go_enter Tryd.func87, Tryd.ntmps87
  go_wp2
  go_loopw [12, 11, 3] (fun ci mi fi wr => ∃ (x M : Nat) (F' : Option Addr) (m' d' : Nat), x ≤ n ∧ ci = .int .i64 (x : Int) ∧ M = (rwTo n b k l x).length ∧ mi = .int .i64 (M : Int) ∧ fi = .slice F' m' d' ∧ Beds wr F' m' d' (firstL L (rwTo n b k l x)) ∧ Below w.heap.size w wr) (fun ci _ _ _ => n - (intOf ci).toNat)
  case atStart => exact ⟨0, 0, F, m, d, by omega, rfl, rfl, rfl, rfl, by rw [rwTo_zero, firstL_nil]; exact HFF.out, Below.refl _ _⟩
  case round => as_aux_lemma =>
    obtain ⟨x, M, F', m', d', hx, rfl, hM, rfl, rfl, hF, hbel⟩ := hrel
    have HF := Lib.hid hF
    have HB := Lib.hid hbel
    have HM := Lib.hid hM
    by_cases hxn : x < n
    · have x0 : (0 : Int) ≤ (x : Int) := by omega
      have xn : (x : Int) < (n : Int) := by omega
      clear hF hbel hM
      go_wp2
      go_loop [14, 13] (fun ii oi => ∃ i : Nat, i ≤ r ∧ ii = .int .i64 (i : Int) ∧ oi = .bool (oN l x i)) (fun ii _ => r - (intOf ii).toNat)
      case atStart => exact ⟨0, by omega, rfl, by rw [HN0.out]⟩
      case round => as_aux_lemma =>
        obtain ⟨i, hir, rfl, rfl⟩ := hrel
        by_cases hi : i < r
        · have HN := Lib.hid (HN1.out x i)
          obtain ⟨a1, o1, rfl, hc1⟩ := (HI.out.below HB.out).at_ hi
          rw [zs_get] at hc1
          generalize l.getD i 0 = y at *
          have i0 : (0 : Int) ≤ (i : Int) := by omega
          have ir : (i : Int) < (r : Int) := by omega
          cases hf : oN l x i
          · rw [hf, Bool.false_and] at HN
            have HN' := Lib.hid HN.out
            clear hf HN
            go_wp2
            go_round
            case rel => exact ⟨i + 1, by omega, by go_num, by rw [HN'.out]⟩
            case measure => simp [intOf]; omega
          · rw [hf, Bool.true_and] at HN
            have HN' : Hid (oN l x (i + 1) = ((y : Int) != (x : Int))) := Lib.hid (by
              rw [HN.out]
              by_cases h1 : y = x
              · simp [h1]
              · have : ((y : Int) != (x : Int)) = true := by simp; omega
                rw [this, decide_eq_true h1])
            clear hf HN
            go_wp2
            go_round
            case rel => exact ⟨i + 1, by omega, by go_num, by rw [HN'.out]⟩
            case measure => simp [intOf]; omega
        · obtain rfl : i = r := by omega
          obtain ⟨o1, ho1⟩ : ∃ z, z = oN l x i := ⟨_, rfl⟩
          have HO1 := Lib.hid ho1
          rw [← ho1]
          clear ho1
          go_wp2
          go_loop [15, 13] (fun ii oi => ∃ t : Nat, t ≤ ms ∧ ii = .int .i64 (t : Int) ∧ oi = .bool (o1 && oS b i x t)) (fun ii _ => ms - (intOf ii).toNat)
          case atStart => exact ⟨0, by omega, rfl, by rw [HS0.out, Bool.and_true]⟩
          case round => as_aux_lemma =>
            obtain ⟨t, htm, rfl, rfl⟩ := hrel
            by_cases ht : t < ms
            · have HN := Lib.hid (HS1.out x t)
              obtain ⟨g2, o2, rfl, B2, d2, hc2, _, _, hi2⟩ := (HS.out.below HB.out).at_ ht
              rw [HROW.out t ht] at hc2 hi2
              obtain ⟨g4, o4, rfl, hc4⟩ := hi2.at_ hrn
              have hg4 : (b.getD t []).getD i 0 = gAt b t i := rfl
              rw [hg4] at hc4
              generalize gAt b t i = u at *
              have t0 : (0 : Int) ≤ (t : Int) := by omega
              have tm : (t : Int) < (ms : Int) := by omega
              clear hi2
              have HE1 : Hid ((o1 && oS b i x (t + 1)) = ((o1 && oS b i x t) && (u != (x : Int)))) := Lib.hid (by
                rw [HN.out, Bool.and_assoc]
                congr 1
                congr 1
                by_cases h1 : u = (x : Int)
                · simp [h1]
                · simp [h1])
              generalize (o1 && oS b i x t) = p at *
              cases p
              · have HE2 : Hid ((o1 && oS b i x (t + 1)) = false) := Lib.hid (by rw [HE1.out]; rfl)
                clear HE1 HN
                go_wp2
                go_round
                case rel => exact ⟨t + 1, by omega, by go_num, by rw [HE2.out]⟩
                case measure => simp [intOf]; omega
              · have HE2 : Hid ((o1 && oS b i x (t + 1)) = (u != (x : Int))) := Lib.hid (by rw [HE1.out]; rfl)
                clear HE1 HN
                go_wp2
                go_round
                case rel => exact ⟨t + 1, by omega, by go_num, by rw [HE2.out]⟩
                case measure => simp [intOf]; omega
            · obtain rfl : t = ms := by omega
              have HOK2 : Hid (okR b l x = (o1 && oS b i x t)) := Lib.hid (by rw [HOK.out, HO1.out])
              obtain ⟨r, rfl⟩ : ∃ r, r = i := ⟨_, rfl⟩
              have HOKx := HOK2.out.symm
              cases hok : okR b l x
              · rw [hok] at HOKx
                rw [HOKx]
                have HE : Hid (rwTo n b k l (x + 1) = rwTo n b k l x) := Lib.hid (by rw [HTC.out, HTD.out, hok]; simp)
                clear hok
                go_wp2
                go_roundw
                case rel => exact ⟨x + 1, M, F', m', d', by omega, by go_num, by rw [HE.out]; exact HM.out, rfl, rfl, by rw [HE.out]; exact HF.out, HB.out⟩
                case measure => simp [intOf]; omega
              · rw [hok] at HOKx
                rw [HOKx]
                obtain ⟨N, hN⟩ : ∃ z, z = (rowsF n b k (l ++ [x])).length := ⟨_, rfl⟩
                have HE : Hid (rwTo n b k l (x + 1) = rwTo n b k l x ++ rowsF n b k (l ++ [x])) := Lib.hid (by rw [HTC.out, HTD.out, hok]; rfl)
                have hMN : M + N ≤ 1000000 := by
                  have h1 := HMANY.out (x + 1) (by omega)
                  rw [HE.out, List.length_append, ← HM.out, ← hN] at h1
                  exact h1
                obtain ⟨wq, hwq⟩ : ∃ z, z = wr := ⟨_, rfl⟩
                have HFq : Hid (Beds wq F' m' d' (firstL L (rwTo n b k l x))) := Lib.hid (by rw [hwq]; exact HF.out)
                have HBq : Hid (Below w.heap.size w wq) := Lib.hid (by rw [hwq]; exact HB.out)
                have HIq := Lib.hid (HI.out.below HBq.out)
                have IH := Lib.hid (HIH.out x hxn)
                rw [← hwq]
                clear hok hwq
                go_wp2_with (at_builtin; refine wpList_pushAll rfl (.tmp 71) (.tmp 72) rfl wq.heap.size (.slice none 0 0) [] rfl (Row.nil _ _) A r c (zs l) rfl ?hn ?hi ?hl ?hb ?hr)
                case hn => exact HNIL.out
                case hi => exact HIq.out
                case hl => first | omega | (simp; omega)
                case hr =>
                  intro v1 w1 hr1 hg1
                  have hb1 : Below wq.heap.size wq w1 := below_of_none hg1
                  have HR1 : Hid (Row w1 wq.heap.size v1 (zs l)) := hr1
                  have HB1 := Lib.hid hb1
                  have HNEW : Hid (Own (w1.alloc (.cells #[.int .i64 (x : Int)] 3)) w1.heap.size [(x : Int)]) := heap_alloc_new w1 _
                  clear hr1 hg1 hb1
                  go_wp2_with (at_builtin; refine wpList_pushAll rfl (.tmp 77) (.tmp 79) rfl wq.heap.size v1 (zs l) rfl (HR1.out.alloc _) (some ⟨w1.heap.size, 0, none⟩) 1 1 [(x : Int)] rfl ?hn2 ?hi2 ?hl2 ?hb2 ?hr2)
                  case hn2 => exact fun h => by cases h
                  case hi2 => exact HNEW.out.ints' rfl (by omega)
                  case hl2 => rw [HZL.out]; omega
                  case hb2 => exact (HB1.out.alloc HB1.out.size _).size
                  case hr2 =>
                    intro v2 w2 hr2 hg2
                    have hb2 : Below wq.heap.size wq w2 := below_grown (HB1.out.alloc HB1.out.size _) hg2 (HB1.out.alloc HB1.out.size _).size (HR1.out.alloc _) (Nat.le_refl _)
                    have ez : zs l ++ [(x : Int)] = zs (l ++ [x]) := (zs_app l [x]).symm
                    rw [ez] at hr2
                    have el : (l ++ [x]).length = r + 1 := by rw [List.length_append, HR.out]; rfl
                    have ezl : (zs (l ++ [x])).length = r + 1 := by rw [zs_len]; exact el
                    obtain ⟨A2, c2, rfl, hi2, hc2⟩ := hr2.form3 (by omega)
                    rw [ezl] at hi2 hc2
                    have hA2 : A2 = none → (r + 1 : Nat) = 0 ∧ c2 = 0 := fun e => by
                      obtain ⟨_, _, e3, _⟩ := hi2.at_ (show 0 < r + 1 by omega)
                      rw [e] at e3; cases e3
                    have K75 := IH.out (firstL L (rwTo n b k l x)) A2 F' c2 m' d' w2 ((HBW.out.trans (HBq.out.mono HBW.out.size)).trans (hb2.mono (by have := HBW.out.size; have := HBq.out.size; omega))) (by rw [el]; exact hi2) (by rw [el]; exact hA2) (HFq.out.below hb2)
                    rw [el, ← firstL_app, ← HE.out, ← hN] at K75
                    have K75 := Lib.hid K75
                    have HB2 := Lib.hid hb2
                    have HM2 : Hid (M + N = (rwTo n b k l (x + 1)).length) := Lib.hid (by rw [HE.out, List.length_append, ← HM.out, ← hN])
                    rw [ezl]
                    clear hr2 hg2 hi2 hb2 ez hN
                    go_wp2_with fail
                    refine K75.out.mono ?_
                    rintro e w3 ⟨F3, m3, d3, rfl, h1, h2⟩
                    have HF3 := Lib.hid h1
                    have HB3 : Hid (Below w.heap.size w w3) := Lib.hid ((HBq.out.trans (HB2.out.mono HBq.out.size)).trans (h2.mono (by have := HBq.out.size; have := HB2.out.size; omega)))
                    clear h1 h2
                    go_wp2
                    go_roundw
                    case rel => exact ⟨x + 1, M + N, F3, m3, d3, by omega, by go_num, HM2.out, by go_num, rfl, HF3.out, HB3.out⟩
                    case measure => simp [intOf]; omega
    · obtain rfl : x = n := by omega
      have HT : Hid (rowsF x b (k + 1) l = rwTo x b k l x) := HSUC.out
      clear hF hbel hM
      go_wp2
      go_ret2
      exact ⟨F', m', d', by rw [HT.out, ← HM.out]; rfl, by rw [HT.out]; exact HF.out, HB.out⟩
/-- dibberref01.rows -/
theorem f87_any (hb : StartP n b) (hs : Beds w0 B ms cb b) (hn7 : n ≤ 7) : ∀ (k : Nat) (l : List Nat), l.length + k = n → (∀ i, i < l.length → l.getD i 0 < n) → RwC n ms b w0 B cb k l
  | 0, l, h, _ => f87_end n ms b w0 B cb hn7 l (by omega)
  | k + 1, l, h, hl => f87_step n ms b w0 B cb hb hs hn7 k l h hl fun c hc => f87_any hb hs hn7 k (l ++ [c]) (by simp; omega) (fun i hi => by
      rw [List.length_append, List.length_singleton] at hi
      rcases Nat.lt_or_ge i l.length with h3 | h3
      · rw [getD_app1 h3]; exact hl i h3
      · obtain rfl : i = l.length := by omega
        rw [getD_app2]; exact hc)
end
end Go.Proofs.YtiodednhadnekaaDoor
