/- Walks: the specification's orders. -/
import Derived.Test.YtpehhbiodmgjeaaBase7
import Derived.Test.YtpehhbiodmgjeaaPlain15
import Derived.Deep.Cut
namespace Go.Proofs.Ytpehhbiodmgjeaa
open Go.RowKit
/-! ### plain -/
def inTo (l : List Nat) (x i : Nat) : Bool := decide (x ∈ l.take i)
theorem inTo_zero (l : List Nat) (x : Nat) : inTo l x 0 = false := by simp [inTo]
theorem inTo_succ {l : List Nat} {x i : Nat} (h : i < l.length) : inTo l x (i + 1) = (inTo l x i || decide (l.getD i 0 = x)) := by
  unfold inTo
  rw [List.take_succ_eq_append_getElem h]
  have e : l.getD i 0 = l[i] := by simp [List.getD_eq_getElem?_getD, h]
  rw [e, Bool.eq_iff_iff]
  simp only [List.mem_append, List.mem_singleton, decide_eq_true_eq, Bool.or_eq_true]
  constructor
  · rintro (h | h)
    · exact .inl h
    · exact .inr h.symm
  · rintro (h | h)
    · exact .inl h
    · exact .inr h.symm
theorem inTo_all (l : List Nat) (x : Nat) : inTo l x l.length = decide (x ∈ l) := by simp [inTo]
def ordC (n k : Nat) (l : List Nat) (x : Nat) : List (List Nat) := if x ∈ l then [] else ordF n k (l ++ [x])
def ordTo (n k : Nat) (l : List Nat) (x : Nat) : List (List Nat) := (List.range x).flatMap fun x => ordC n k l x
theorem ordTo_zero (n k : Nat) (l : List Nat) : ordTo n k l 0 = [] := rfl
theorem ordTo_succ (n k : Nat) (l : List Nat) (x : Nat) : ordTo n k l (x + 1) = ordTo n k l x ++ ordC n k l x := by
  unfold ordTo; rw [List.range_succ, List.flatMap_append]; simp
theorem ordF_to (n k : Nat) (l : List Nat) : ordF n (k + 1) l = ordTo n k l n := rfl
theorem ordTo_len {n : Nat} (k : Nat) (l : List Nat) {x : Nat} (h : x ≤ n) : (ordTo n k l x).length ≤ n ^ (k + 1) := by
  have h1 := ordF_len n (k + 1) l
  rw [ordF_to] at h1
  refine Nat.le_trans ?_ h1
  have : ∀ d, x ≤ d → (ordTo n k l x).length ≤ (ordTo n k l d).length := by
    intro d hd
    induction d with
    | zero => obtain rfl : x = 0 := by omega
              exact Nat.le_refl _
    | succ d ih =>
      rcases Nat.lt_or_ge d x with h | h
      · obtain rfl : x = d + 1 := by omega
        exact Nat.le_refl _
      · rw [ordTo_succ, List.length_append]
        have := ih h
        omega
  exact this n h
theorem pow66 {n k : Nat} (hn : n ≤ 6) (hk : k ≤ n) : n ^ k ≤ 46656 :=
  Nat.le_trans (Nat.pow_le_pow_left hn k) (Nat.le_trans (Nat.pow_le_pow_right (by decide) (show k ≤ 6 by omega)) (by decide))
theorem map_zs_app (a b : List (List Nat)) : (a ++ b).map zs = a.map zs ++ b.map zs := List.map_append
section
variable (n : Nat)
def OrdC (k : Nat) (l : List Nat) : Prop := ∀ (A : Option Addr) (c : Nat) (w : World), Ints w A l.length (zs l) → l.length ≤ c → (A = none → l.length = 0 ∧ c = 0) → Own3 w A →
  Calls Try.prog 72 #[.int .i64 (n : Int), .slice A l.length c] w fun e w' => ∃ A' c' vs, e = .returned (.slice A' (ordF n k l).length c') ∧ Beds3 w' A' c' vs ((ordF n k l).map zs) ∧ Below w.heap.size w w'
set_option maxRecDepth 100000 in
set_option maxHeartbeats 4000000 in
theorem f72_end (l : List Nat) (hl : l.length = n) : OrdC n 0 l := by
  intro A c w hi hc hn ho
  have hq : ((l.length : Int) == (n : Int)) = true := by simp; omega
  have HI := Lib.hid hi
  have HO := Lib.hid ho
  have HN := Lib.hid hn
  have HC := Lib.hid hc
  have HF : Hid (ordF n 0 l = [l]) := rfl
  obtain ⟨r, hr⟩ : ∃ z, z = l.length := ⟨_, rfl⟩
  rw [← hr] at hq HI HN HC hl ⊢
  obtain rfl : r = n := hl
  clear hi hc hn ho hr
  go_enter Try.func72, Try.ntmps72
  go_wp2
  go_ret
  have HB := Lib.hid (below_alloc w (.cells #[.slice A r c] 22))
  refine ⟨_, _, [.slice A r c], by rw [HF.out]; rfl, ⟨?_, ?_, ?_, ?_, ?_⟩, HB.out⟩
  · rw [HF.out]
    exact Rows3.one (HI.out.below HB.out) HC.out HN.out (HO.out.below HB.out)
  · rw [HF.out]; simp
  · rw [HF.out]; simp
  · intro h; cases h
  · rw [HF.out]
    intro _
    refine ⟨_, 0, rfl, fun j hj => ?_⟩
    obtain rfl : j = 0 := by simpa using hj
    simp
set_option maxRecDepth 100000 in
set_option maxHeartbeats 8000000 in
theorem f72_step (hn : n ≤ 6) (k : Nat) (l : List Nat) (hl : l.length + (k + 1) = n) (ih : ∀ x, x < n → OrdC n k (l ++ [x])) : OrdC n (k + 1) l := by
  intro A c w hi hc hnil ho
  have HI := Lib.hid hi
  have HO := Lib.hid ho
  have HN := Lib.hid hnil
  have HIH := Lib.hid ih
  have HTC : Hid (∀ x, ordTo n k l (x + 1) = ordTo n k l x ++ ordC n k l x) := Lib.hid (ordTo_succ n k l)
  have HTD : Hid (∀ x, ordC n k l x = if x ∈ l then [] else ordF n k (l ++ [x])) := Lib.hid fun x => rfl
  have HMANY : Hid (∀ x, x ≤ n → (ordTo n k l x).length ≤ 1000000) := Lib.hid fun x hx => Nat.le_trans (ordTo_len k l hx) (Nat.le_trans (pow66 hn (by omega)) (by omega))
  have HF : Hid (ordF n (k + 1) l = ordTo n k l n) := rfl
  have HZ : Hid (ordTo n k l 0 = []) := rfl
  have HIN0 : Hid (∀ x, inTo l x 0 = false) := Lib.hid fun x => inTo_zero l x
  have HIN1 : Hid (∀ x i, i < l.length → inTo l x (i + 1) = (inTo l x i || decide (l.getD i 0 = x))) := Lib.hid fun x i h => inTo_succ h
  have HIN2 : Hid (∀ x, inTo l x l.length = decide (x ∈ l)) := Lib.hid (inTo_all l)
  have HXL : Hid (∀ x, (l ++ [x]).length = l.length + 1) := Lib.hid fun x => by simp
  have HZL : Hid ((zs l).length = l.length) := zs_len l
  obtain ⟨r, hr⟩ : ∃ z, z = l.length := ⟨_, rfl⟩
  rw [← hr] at hl hi hc hnil HI HN HIN1 HIN2 HXL HZL ⊢
  have hq : ((r : Int) == (n : Int)) = false := by simp; omega
  have hrc : (r : Int) ≤ (c : Int) := by omega
  clear hi hnil ho ih hr
  go_enter Try.func72, Try.ntmps72
  go_wp2
  go_loopw [6, 5] (fun xi vi wr => ∃ (x : Nat) (vs : List Value), x ≤ n ∧ xi = .int .i64 (x : Int) ∧ Hid (RowV wr w.heap.size vi vs) ∧ Hid (Rows3 wr vs ((ordTo n k l x).map zs)) ∧ Hid (Below w.heap.size w wr)) (fun xi _ _ => n - (intOf xi).toNat)
  case atStart => exact ⟨0, [], by omega, rfl, RowV.nil _ _, by rw [HZ.out]; exact Rows3.nil _, Below.refl _ _⟩
  case round => as_aux_lemma =>
    obtain ⟨x, vs, hx, rfl, HRV, HRS, HB⟩ := hrel
    by_cases hxn : x < n
    · have x0 : (0 : Int) ≤ (x : Int) := by omega
      have xn : (x : Int) < (n : Int) := by omega
      go_wp2
      go_loop [8, 7] (fun ii oi => ∃ i : Nat, i ≤ r ∧ ii = .int .i64 (i : Int) ∧ oi = .bool (inTo l x i)) (fun ii _ => r - (intOf ii).toNat)
      case atStart => exact ⟨0, by omega, rfl, by rw [HIN0.out]⟩
      case round => as_aux_lemma =>
        obtain ⟨i, hir, rfl, rfl⟩ := hrel
        by_cases hi : i < r
        · have HN1 := Lib.hid (HIN1.out x i hi)
          obtain ⟨a1, o1, rfl, hc1⟩ := (HI.out.below HB.out).at_ hi
          rw [zs_get] at hc1
          generalize l.getD i 0 = y at *
          have i0 : (0 : Int) ≤ (i : Int) := by omega
          have ir : (i : Int) < (r : Int) := by omega
          cases hf : inTo l x i
          · rw [hf, Bool.false_or] at HN1
            have HN' : Hid (inTo l x (i + 1) = ((y : Int) == (x : Int))) := Lib.hid (by
              rw [HN1.out]
              by_cases h1 : y = x
              · simp [h1]
              · have : ((y : Int) == (x : Int)) = false := by simp; omega
                rw [this, decide_eq_false h1])
            clear hf HN1
            go_wp2
            go_round
            case rel => exact ⟨i + 1, by omega, by go_num, by rw [HN'.out]⟩
            case measure => simp [intOf]; omega
          · rw [hf, Bool.true_or] at HN1
            have HN' := Lib.hid HN1.out
            clear hf HN1
            go_wp2
            go_round
            case rel => exact ⟨i + 1, by omega, by go_num, by rw [HN'.out]⟩
            case measure => simp [intOf]; omega
        · obtain rfl : i = r := by omega
          rw [HIN2.out]
          by_cases hm : x ∈ l
          · have HE : Hid (ordTo n k l (x + 1) = ordTo n k l x) := Lib.hid (by rw [HTC.out, HTD.out, if_pos hm, List.append_nil])
            rw [decide_eq_true hm]
            clear hm
            go_wp2
            go_roundw
            case rel => exact ⟨x + 1, vs, by omega, by go_num, HRV, by rw [HE.out]; exact HRS, HB⟩
            case measure => simp [intOf]; omega
          · have HE : Hid (ordTo n k l (x + 1) = ordTo n k l x ++ ordF n k (l ++ [x])) := Lib.hid (by rw [HTC.out, HTD.out, if_neg hm])
            rw [decide_eq_false hm]
            have HLE := Lib.hid (HMANY.out (x + 1) (by omega))
            have HVL := Lib.hid HRS.out.1
            have HIH1 := Lib.hid (HIH.out x hxn)
            obtain ⟨wq, hwq⟩ : ∃ z, z = wr := ⟨_, rfl⟩
            rw [← hwq] at HRV HRS HB ⊢
            have HIq := Lib.hid (HI.out.below HB.out)
            have HOq := Lib.hid (HO.out.below HB.out)
            clear hm hwq
            rcases A with _ | ad
            · obtain ⟨rfl, rfl⟩ := HN.out rfl
              go_wp2_with (at_builtin; refine wpList_pushFull rfl (.tmp 44) (.tmp 46) rfl none 0 (zs l) rfl ?hna (HIq.out.below (below_alloc wq _)) wq.heap.size 1 (x : Int) rfl ?hca ?hla ?hra)
              case hra =>
                intro v2 w2 hr2 hg2
                have hb2 : Below wq.heap.size wq w2 := (below_alloc wq _).trans ((grown_none hg2).mono (below_alloc wq _).size)
                obtain ⟨A2, c2, e2, q1, q2, q3, q4⟩ := Row.form3 hr2 (by rw [← zs_snoc, zs_len, HXL.out]; omega)
                rw [← zs_snoc, zs_len] at e2 q1 q2 q3
                have K := Lib.hid (HIH1.out A2 c2 w2 q3 q1 q2 q4)
                rw [HXL.out] at K e2
                obtain ⟨N, hN⟩ : ∃ z, z = (ordF n k (l ++ [x])).length := ⟨_, rfl⟩
                rw [← hN] at K
                have HNL := Lib.hid hN
                have HRV2 : Hid (RowV w2 w.heap.size u5 vs) := Lib.hid (HRV.out.below hb2)
                have HRS2 : Hid (Rows3 w2 vs ((ordTo n k l x).map zs)) := Lib.hid (HRS.out.below hb2)
                have HB2 : Hid (Below w.heap.size w w2) := Lib.hid (below_step HB.out hb2)
                subst e2
                clear hr2 hg2 hb2 q1 q2 q3 q4 hN
                go_wp2_with fail
                refine K.out.mono ?_
                rintro e w3 ⟨A3, c3, us, rfl, hb3, hbl3⟩
                have HB3 := Lib.hid hb3
                have HBL := Lib.hid hbl3
                clear hb3 hbl3
                go_wp2_with (at_builtin; refine wpList_pushAllV rfl (.tmp 37) (.tmp 48) rfl w.heap.size u5 vs rfl (HRV2.out.below HBL.out) A3 N c3 us rfl ?hn2a ?hul2a ?hsl2a ?hi2a ?hl2a ?hb2a ?hr2a)
                case hn2a => exact fun h => by have := HB3.out.2.2.2.1 h; rw [List.length_map, ← HNL.out] at this; exact this
                case hul2a => rw [HB3.out.1.1, List.length_map, HNL.out]
                case hsl2a => exact fun j hj => HB3.out.1.slice (by rw [List.length_map, ← HNL.out]; exact hj)
                case hi2a =>
                  intro hp
                  obtain ⟨g', o', e', h'⟩ := HB3.out.2.2.2.2 (by rw [List.length_map, ← HNL.out]; exact hp)
                  exact ⟨g', o', e', fun j hj => h' j (by rw [List.length_map, ← HNL.out]; exact hj)⟩
                case hl2a =>
                  have h1 := HLE.out
                  have h2 := HVL.out
                  rw [HE.out, List.length_append, ← HNL.out] at h1
                  rw [List.length_map] at h2
                  omega
                case hb2a => exact Nat.le_trans HB2.out.size HBL.out.size
                case hr2a =>
                  intro v4 w4 hr4 hg4
                  have HR4 : Hid (RowV w4 w.heap.size v4 (vs ++ us)) := Lib.hid (by simpa using hr4)
                  have HRS4 : Hid (Rows3 w4 (vs ++ us) ((ordTo n k l (x + 1)).map zs)) := Lib.hid (by
                    rw [HE.out, map_zs_app]
                    exact ((HRS2.out.below HBL.out).append HB3.out.1).grown (HRV2.out.below HBL.out) hg4)
                  have HB4 : Hid (Below w.heap.size w w4) := Lib.hid (below_grownV (below_step HB2.out HBL.out) hg4 (Nat.le_trans HB2.out.size HBL.out.size) (HRV2.out.below HBL.out) (Nat.le_refl _))
                  clear hr4 hg4
                  go_wp2
                  go_roundw
                  case rel => exact ⟨v4, _, _, _, _, _, _, _, _, _, _, _, _, _, _, _, _, _, _, _, _, _, _, _, _, _, _, _, _, _, _, _, _, _, _, _, _, _, _, ⟨x + 1, vs ++ us, by omega, rfl, HR4, HRS4, HB4⟩, rfl⟩
                  case measure => simp [intOf]; omega
            · go_wp2_with (at_builtin; refine wpList_pushFull rfl (.tmp 44) (.tmp 46) rfl (some ad) i (zs l) rfl ?hnb (HIq.out.below (below_alloc wq _)) wq.heap.size 1 (x : Int) rfl ?hcb ?hlb ?hrb)
              case hlb => omega
              case hrb =>
                intro v2 w2 hr2 hg2
                have hb2 : Below wq.heap.size wq w2 := (below_alloc wq _).trans ((grown_none hg2).mono (below_alloc wq _).size)
                obtain ⟨A2, c2, e2, q1, q2, q3, q4⟩ := Row.form3 hr2 (by rw [← zs_snoc, zs_len, HXL.out]; omega)
                rw [← zs_snoc, zs_len] at e2 q1 q2 q3
                have K := Lib.hid (HIH1.out A2 c2 w2 q3 q1 q2 q4)
                rw [HXL.out] at K e2
                obtain ⟨N, hN⟩ : ∃ z, z = (ordF n k (l ++ [x])).length := ⟨_, rfl⟩
                rw [← hN] at K
                have HNL := Lib.hid hN
                have HRV2 : Hid (RowV w2 w.heap.size u5 vs) := Lib.hid (HRV.out.below hb2)
                have HRS2 : Hid (Rows3 w2 vs ((ordTo n k l x).map zs)) := Lib.hid (HRS.out.below hb2)
                have HB2 : Hid (Below w.heap.size w w2) := Lib.hid (below_step HB.out hb2)
                subst e2
                clear hr2 hg2 hb2 q1 q2 q3 q4 hN
                go_wp2_with fail
                refine K.out.mono ?_
                rintro e w3 ⟨A3, c3, us, rfl, hb3, hbl3⟩
                have HB3 := Lib.hid hb3
                have HBL := Lib.hid hbl3
                clear hb3 hbl3
                go_wp2_with (at_builtin; refine wpList_pushAllV rfl (.tmp 37) (.tmp 48) rfl w.heap.size u5 vs rfl (HRV2.out.below HBL.out) A3 N c3 us rfl ?hn2b ?hul2b ?hsl2b ?hi2b ?hl2b ?hb2b ?hr2b)
                case hn2b => exact fun h => by have := HB3.out.2.2.2.1 h; rw [List.length_map, ← HNL.out] at this; exact this
                case hul2b => rw [HB3.out.1.1, List.length_map, HNL.out]
                case hsl2b => exact fun j hj => HB3.out.1.slice (by rw [List.length_map, ← HNL.out]; exact hj)
                case hi2b =>
                  intro hp
                  obtain ⟨g', o', e', h'⟩ := HB3.out.2.2.2.2 (by rw [List.length_map, ← HNL.out]; exact hp)
                  exact ⟨g', o', e', fun j hj => h' j (by rw [List.length_map, ← HNL.out]; exact hj)⟩
                case hl2b =>
                  have h1 := HLE.out
                  have h2 := HVL.out
                  rw [HE.out, List.length_append, ← HNL.out] at h1
                  rw [List.length_map] at h2
                  omega
                case hb2b => exact Nat.le_trans HB2.out.size HBL.out.size
                case hr2b =>
                  intro v4 w4 hr4 hg4
                  have HR4 : Hid (RowV w4 w.heap.size v4 (vs ++ us)) := Lib.hid (by simpa using hr4)
                  have HRS4 : Hid (Rows3 w4 (vs ++ us) ((ordTo n k l (x + 1)).map zs)) := Lib.hid (by
                    rw [HE.out, map_zs_app]
                    exact ((HRS2.out.below HBL.out).append HB3.out.1).grown (HRV2.out.below HBL.out) hg4)
                  have HB4 : Hid (Below w.heap.size w w4) := Lib.hid (below_grownV (below_step HB2.out HBL.out) hg4 (Nat.le_trans HB2.out.size HBL.out.size) (HRV2.out.below HBL.out) (Nat.le_refl _))
                  clear hr4 hg4
                  go_wp2
                  go_roundw
                  case rel => exact ⟨x + 1, vs ++ us, by omega, by go_num, HR4, HRS4, HB4⟩
                  case measure => simp [intOf]; omega
    · obtain rfl : x = n := by omega
      go_wp2
      go_ret
      have HLE := Lib.hid (HMANY.out x (Nat.le_refl _))
      obtain ⟨A', c', e, h⟩ := RowV.beds3 HRV.out HRS.out (by rw [List.length_map]; exact HLE.out)
      rw [← HF.out, List.length_map] at e
      rw [← HF.out] at h
      exact ⟨A', c', vs, by rw [e]; rfl, h, HB.out⟩
/-- dibberref08.orders -/
theorem f72_all (hn : n ≤ 6) : ∀ (k : Nat) (l : List Nat), l.length + k = n → OrdC n k l
  | 0, l, h => f72_end n l h
  | k + 1, l, h => f72_step n hn k l h fun x _ => f72_all hn k (l ++ [x]) (by simp; omega)
end
theorem f72_any (n : Nat) (hn : n ≤ 6) (w : World) : Calls Try.prog 72 #[.int .i64 (n : Int), .slice none 0 0] w fun e w' => ∃ A' c' vs, e = .returned (.slice A' (ordF n n []).length c') ∧ Beds3 w' A' c' vs ((ordF n n []).map zs) ∧ Below w.heap.size w w' :=
  f72_all n hn n [] (by simp) none 0 w (Ints.nil w none) (Nat.le_refl _) (fun _ => ⟨rfl, rfl⟩) (Own3.nil w)
end Go.Proofs.Ytpehhbiodmgjeaa
