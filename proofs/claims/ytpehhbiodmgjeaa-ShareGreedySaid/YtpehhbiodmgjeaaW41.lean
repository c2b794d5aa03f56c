/- Walks: the specification's put. -/
import Derived.Test.YtpehhbiodmgjeaaW40
import Derived.Test.YtpehhbiodmgjeaaBase7
import Derived.Test.YtpehhbiodmgjeaaPlain16
import Derived.Test.YtpehhbiodmgjeaaPlain17
namespace Go.Proofs.Ytpehhbiodmgjeaa
open Go.RowKit
theorem lt_of_some {w : World} {a : Addr} {o : Option Value} {B : Option Addr} {n d : Nat} (h : w.cell? a = o) (e : o = some (.slice B n d)) : a.block < w.heap.size := lt_of_cell (h.trans e)
set_option maxRecDepth 100000 in
set_option maxHeartbeats 8000000 in
/-- dibberref08.put -/
theorem f73_any (A : Option Addr) (c : Nat) (vs : List Value) (l : List (List Int)) (B : Option Addr) (n d : Nat) (x : List Int) (w : World) (hl : Beds3 w A c vs l) (hx : Ints w B n x) (hd : n ≤ d) (hB : B = none → n = 0 ∧ d = 0) (ho : Own3 w B)
    (hrow : ∀ j, j < l.length → (l.getD j []).length = n) (hm : l.length + 1 ≤ 1000000) (hA : l.length = 0 → A = none ∧ c = 0) :
    Calls Try.prog 73 #[.slice A l.length c, .slice B n d] w fun e w' => ∃ A' c' vs', e = .returned (.slice A' (putF l x).length c') ∧ Beds3 w' A' c' vs' (putF l x) ∧ Below w.heap.size w w' := by
  obtain ⟨m, hll⟩ : ∃ z, z = l.length := ⟨_, rfl⟩
  have HPL : Hid ((putF l x).length ≤ 1000000) := Lib.hid (Nat.le_trans (putF_len l x).1 hm)
  have hcap := hl.2.2.1
  have HL0 := Lib.hid hl.beds
  have HX0 := Lib.hid hx
  have HROW := Lib.hid hrow
  have HNIL := Lib.hid hl.2.2.2.1
  have HD := Lib.hid hd
  have HB := Lib.hid hB
  have HO0 := Lib.hid ho
  have HRS0 := Lib.hid hl.1
  have HV := Lib.hid hl.1.1
  have HC0 := Lib.hid hl.2.2.2.2
  have HLL : Hid (l.length = m) := Lib.hid hll.symm
  have HP : Hid (∀ k, k ≤ m → (∀ j, j < k → cmpL (l.getD j []) x < 0) → (k = m ∨ ¬ cmpL (l.getD k []) x < 0) → putF l x = if k < m ∧ ¬ cmpL x (l.getD k []) < 0 then l else l.take k ++ x :: l.drop k) :=
    Lib.hid fun k h1 h2 h3 => by
      have := putF_at (l := l) (x := x) (k := k) (by omega) h2 (by rw [← hll]; exact h3)
      rw [← hll] at this
      exact this
  have HBED := Lib.hid hl
  have HA := Lib.hid hA
  rw [← hll] at HA HL0 HROW HNIL HV HC0 hm hcap ⊢
  clear hl hx hrow hd hB ho hll hA
  go_enter Try.func73, Try.ntmps73
  go_wp2
  go_loopw [5] (fun ai wr => ∃ k : Nat, k ≤ m ∧ ai = .int .i64 (k : Int) ∧ Hid (∀ j, j < k → cmpL (l.getD j []) x < 0) ∧ ∃ q, wr = w.drewN q) (fun i _ => m - (intOf i).toNat)
  case atStart => exact ⟨0, by omega, rfl, Lib.hid fun j hj => by omega, 0, rfl⟩
  case round => as_aux_lemma =>
    obtain ⟨k, hk, rfl, hlow, q, rfl⟩ := hrel
    by_cases hkm : k < m
    · obtain ⟨g, o, rfl, C, e, hc1, _, _, hi⟩ := HL0.out.at_ hkm
      have hrn := HROW.out k hkm
      rw [hrn] at hc1 hi
      have K := Lib.hid (f90_any C B n e d (l.getD k []) x (w.drewN q) (hi.drewN q) (HX0.out.drewN q))
      have K2 := Lib.hid fun q => (f90_any B C n d e x (l.getD k []) (w.drewN q) (HX0.out.drewN q) (hi.drewN q))
      have k0 : (0 : Int) ≤ (k : Int) := by omega
      have km : (k : Int) < (m : Int) := by omega
      have HK := Lib.hid (HP.out k hk hlow.out)
      clear hi
      by_cases hb : cmpL (l.getD k []) x < 0
      · have HNX : Hid (∀ j, j < k + 1 → cmpL (l.getD j []) x < 0) := Lib.hid fun j hj => by
          rcases Nat.lt_or_ge j k with h | h
          · exact hlow.out j h
          · obtain rfl : j = k := by omega
            exact hb
        rw [decide_eq_true hb] at K
        clear hb hlow HK
        go_wp2_with fail
        refine K.out.mono ?_
        rintro e w1 ⟨rfl, q1, rfl⟩
        go_wp2
        go_roundw
        case rel => exact ⟨k + 1, by omega, by go_num, HNX.out, by first | exact ⟨_, rfl⟩ | exact ⟨_, World.drewN_drewN _ _ _⟩⟩
        case measure => simp [intOf]; omega
      · rw [decide_eq_false hb] at K
        have HK2 := Lib.hid (HK.out (.inr (by omega)))
        clear hb hlow HK
        go_wp2_with fail
        refine K.out.mono ?_
        rintro e w1 ⟨rfl, q1, rfl⟩
        by_cases hb : cmpL x (l.getD k []) < 0
        · have HT : Hid (putF l x = l.take k ++ x :: l.drop k) := Lib.hid (by rw [HK2.out, if_neg (by rintro ⟨_, h⟩; omega)])
          have K3 := Lib.hid (fun q => K2.out q)
          rw [decide_eq_true hb] at K3
          clear hb HK2 K2
          go_wp2_with fail
          refine (K3.out _).mono ?_
          rintro e w1 ⟨rfl, hw1⟩
          have HBW : Hid (Below w.heap.size w w1) := Lib.hid (by
            obtain ⟨q2, rfl⟩ := hw1
            repeat (refine below_drewN ?_ _)
            exact Below.refl _ _)
          have HX := Lib.hid (HX0.out.below HBW.out)
          have HO := Lib.hid (HO0.out.below HBW.out)
          have HRS := Lib.hid (HRS0.out.below HBW.out)
          have HC : Hid (0 < m → ∃ g' o', (some (⟨g, o, none⟩ : Addr)) = some ⟨g', o', none⟩ ∧ ∀ j, j < m → w1.cell? ⟨g', o' + j, none⟩ = vs[j]?) := Lib.hid fun hp => by
            obtain ⟨g', o', e, hc⟩ := HC0.out hp
            exact ⟨g', o', e, fun j hj => by
              obtain ⟨B', n', d', h⟩ := HRS0.out.slice (j := j) (by rw [HLL.out]; exact hj)
              exact (HBW.out.cell (lt_of_some (hc j hj) h)).trans (hc j hj)⟩
          clear hw1
          go_wp2_with (at_builtin; refine wpList_pushAllV rfl (.tmp 35) (.tmp 38) rfl w1.heap.size (.slice none 0 0) [] rfl (RowV.nil _ _) (some ⟨g, o, none⟩) k c (vs.take k) rfl ?hna ?hula ?hsla ?hia ?hla ?hba ?hra)
          case hna => exact fun h => by cases h
          case hula => rw [List.length_take, HV.out]; omega
          case hsla =>
            intro j hj
            rw [List.getElem?_take, if_pos hj]
            exact HRS.out.slice (j := j) (by rw [HLL.out]; omega)
          case hia =>
            intro hp
            obtain ⟨g', o', e, hc⟩ := HC.out (by omega)
            exact ⟨g', o', e, fun j hj => by rw [List.getElem?_take, if_pos hj]; exact hc j (by omega)⟩
          case hla => simp; omega
          case hba => exact Nat.le_refl _
          case hra =>
            intro v2 w2 hr2 hg2
            have HB2 := Lib.hid (below_grownV (Below.refl _ _) hg2 (Nat.le_refl _) (RowV.nil w1 _) (Nat.le_refl _))
            have HR2 : Hid (RowV w2 w1.heap.size v2 (vs.take k)) := Lib.hid hr2
            have hsz2 := HB2.out.size
            clear hr2 hg2
            go_wp2_with (at_builtin; refine wpList_pushV rfl (.tmp 40) (.tmp 42) rfl w1.heap.size v2 (vs.take k) rfl (HR2.out.alloc _) w2.heap.size 1 B n d rfl ?hc2a ?hl2a ?hb2a ?hr2a)
            case hc2a => exact (cell_new w2 #[.slice B n d] 22 0).trans rfl
            case hl2a => rw [List.length_take, HV.out]; omega
            case hb2a => exact le_alloc hsz2 _
            case hr2a =>
              intro v3 w3 hr3 hg3 _
              have HB3 : Hid (Below w1.heap.size w1 w3) := Lib.hid (below_grownV (HB2.out.alloc HB2.out.size _) hg3 (le_alloc hsz2 _) (HR2.out.alloc _) (Nat.le_refl _))
              have HR3 := Lib.hid hr3
              have hsz3 := HB3.out.size
              clear hr3 hg3
              go_wp2_with (at_builtin; refine wpList_pushAllV rfl (.tmp 44) (.tmp 47) rfl w1.heap.size v3 (vs.take k ++ [.slice B n d]) rfl HR3.out (some ⟨g, o + k, none⟩) (m - k) (c - k) (vs.drop k) rfl ?hn3a ?hul3a ?hsl3a ?hi3a ?hl3a ?hb3a ?hr3a)
              case hn3a => exact fun h => by cases h
              case hul3a => exact (by rw [List.length_drop, HV.out] : (vs.drop k).length = m - k)
              case hsl3a =>
                intro j hj
                rw [List.getElem?_drop]
                exact HRS.out.slice (j := k + j) (by rw [HLL.out]; omega)
              case hi3a =>
                intro hp
                obtain ⟨g', o', e, hc⟩ := HC.out (by omega)
                cases e
                exact ⟨_, _ + k, rfl, fun j hj => by
                  rw [List.getElem?_drop, Nat.add_assoc]
                  have h := hc (k + j) (by omega)
                  obtain ⟨B', n', d', h2⟩ := HRS.out.slice (j := k + j) (by rw [HLL.out]; omega)
                  exact (HB3.out.cell (lt_of_some h h2)).trans h⟩
              case hl3a => first | omega | (simp; done) | (simp; omega)
              case hb3a => omega
              case hr3a =>
                intro v4 w4 hr4 hg4
                have HB4 : Hid (Below w1.heap.size w1 w4) := Lib.hid (below_grownV HB3.out hg4 (by omega) HR3.out (Nat.le_refl _))
                have HRS4 : Hid (Rows3 w4 (vs.take k ++ [.slice B n d] ++ vs.drop k) (l.take k ++ [x] ++ l.drop k)) := Lib.hid ((((HRS.out.below HB4.out).take k).append (Rows3.one (HX.out.below HB4.out) HD.out HB.out (HO.out.below HB4.out))).append ((HRS.out.below HB4.out).drop k))
                have HT2 : Hid (putF l x = l.take k ++ [x] ++ l.drop k) := Lib.hid (by rw [HT.out]; simp)
                have hr4 : RowV w4 w1.heap.size v4 (vs.take k ++ [.slice B n d] ++ vs.drop k) := by simpa using hr4
                obtain ⟨A4, c4, rfl, h4⟩ := RowV.beds3 hr4 HRS4.out (by rw [← HT2.out]; exact HPL.out)
                rw [← HT2.out] at h4 ⊢
                have H4 := Lib.hid h4
                clear hr4 hg4 h4
                go_wp2
                go_ret
                exact ⟨A4, c4, _, rfl, H4.out, HBW.out.trans (HB4.out.mono HBW.out.size)⟩
        · have HT : Hid (putF l x = l) := Lib.hid (by rw [HK2.out, if_pos ⟨hkm, by omega⟩])
          have K3 := Lib.hid (fun q => K2.out q)
          rw [decide_eq_false hb] at K3
          clear hb HK2 K2
          go_wp2_with fail
          refine (K3.out _).mono ?_
          rintro e w1 ⟨rfl, q1, rfl⟩
          go_wp2
          go_ret
          refine ⟨some ⟨g, o, none⟩, c, vs, ?_, ?_, ?_⟩
          · rw [HT.out, HLL.out]; rfl
          · rw [HT.out]; exact HBED.out
          · repeat (refine below_drewN ?_ _)
            exact Below.refl _ _
    · obtain rfl : k = m := by omega
      have HT : Hid (putF l x = l.take k ++ x :: l.drop k) := Lib.hid (by rw [HP.out k (Nat.le_refl _) hlow.out (.inl rfl), if_neg (by rintro ⟨h, _⟩; omega)])
      obtain ⟨w1, hw1⟩ : ∃ z, z = w.drewN q := ⟨_, rfl⟩
      have HBW : Hid (Below w.heap.size w w1) := Lib.hid (by rw [hw1]; exact below_drewN (Below.refl _ _) _)
      have HX := Lib.hid (HX0.out.below HBW.out)
      have HO := Lib.hid (HO0.out.below HBW.out)
      have HRS := Lib.hid (HRS0.out.below HBW.out)
      have HC : Hid (0 < k → ∃ g' o', A = some ⟨g', o', none⟩ ∧ ∀ j, j < k → w1.cell? ⟨g', o' + j, none⟩ = vs[j]?) := Lib.hid fun hp => by
        obtain ⟨g', o', e, hc⟩ := HC0.out hp
        exact ⟨g', o', e, fun j hj => by
          obtain ⟨B', n', d', h⟩ := HRS0.out.slice (j := j) (by rw [HLL.out]; exact hj)
          exact (HBW.out.cell (lt_of_some (hc j hj) h)).trans (hc j hj)⟩
      rw [← hw1]
      clear hw1
      by_cases hk0 : k = 0
      · obtain ⟨rfl, rfl⟩ := HA.out hk0
        subst hk0
        go_wp2_with (at_builtin; refine wpList_pushAllV rfl (.tmp 35) (.tmp 38) rfl w1.heap.size (.slice none 0 0) [] rfl (RowV.nil _ _) none 0 0 (vs.take 0) rfl ?hnb ?hulb ?hslb ?hib ?hlb ?hbb ?hrb)
        case hrb =>
          intro v2 w2 hr2 hg2
          have HB2 := Lib.hid (below_grownV (Below.refl _ _) hg2 (Nat.le_refl _) (RowV.nil w1 _) (Nat.le_refl _))
          have HR2 : Hid (RowV w2 w1.heap.size v2 (vs.take 0)) := Lib.hid hr2
          have hsz2 := HB2.out.size
          clear hr2 hg2
          go_wp2_with (at_builtin; refine wpList_pushV rfl (.tmp 40) (.tmp 42) rfl w1.heap.size v2 (vs.take 0) rfl (HR2.out.alloc _) w2.heap.size 1 B n d rfl ?hc2b ?hl2b ?hb2b ?hr2b)
          case hc2b => exact (cell_new w2 #[.slice B n d] 22 0).trans rfl
          case hl2b => rw [List.length_take, HV.out]; omega
          case hb2b => exact le_alloc hsz2 _
          case hr2b =>
            intro v3 w3 hr3 hg3 _
            have HB3 : Hid (Below w1.heap.size w1 w3) := Lib.hid (below_grownV (HB2.out.alloc HB2.out.size _) hg3 (le_alloc hsz2 _) (HR2.out.alloc _) (Nat.le_refl _))
            have HR3 := Lib.hid hr3
            have hsz3 := HB3.out.size
            clear hr3 hg3
            go_wp2_with (at_builtin; refine wpList_pushAllV rfl (.tmp 44) (.tmp 47) rfl w1.heap.size v3 (vs.take 0 ++ [.slice B n d]) rfl HR3.out none 0 0 (vs.drop 0) rfl ?hn3b ?hul3b ?hsl3b ?hi3b ?hl3b ?hb3b ?hr3b)
            case hul3b => simpa using HV.out
            case hsl3b =>
              intro j hj
              rw [List.getElem?_drop]
              exact HRS.out.slice (j := 0 + j) (by rw [HLL.out]; omega)
            case hi3b => exact fun hp => absurd hp (by decide)
            case hl3b => first | omega | (simp; done) | (simp; omega)
            case hb3b => omega
            case hr3b =>
              intro v4 w4 hr4 hg4
              have HB4 : Hid (Below w1.heap.size w1 w4) := Lib.hid (below_grownV HB3.out hg4 (by omega) HR3.out (Nat.le_refl _))
              have HRS4 : Hid (Rows3 w4 (vs.take 0 ++ [.slice B n d] ++ vs.drop 0) (l.take 0 ++ [x] ++ l.drop 0)) := Lib.hid ((((HRS.out.below HB4.out).take 0).append (Rows3.one (HX.out.below HB4.out) HD.out HB.out (HO.out.below HB4.out))).append ((HRS.out.below HB4.out).drop 0))
              have HT2 : Hid (putF l x = l.take 0 ++ [x] ++ l.drop 0) := Lib.hid (by rw [HT.out]; simp)
              have hr4 : RowV w4 w1.heap.size v4 (vs.take 0 ++ [.slice B n d] ++ vs.drop 0) := by simpa using hr4
              obtain ⟨A4, c4, rfl, h4⟩ := RowV.beds3 hr4 HRS4.out (by rw [← HT2.out]; exact HPL.out)
              rw [← HT2.out] at h4 ⊢
              have H4 := Lib.hid h4
              clear hr4 hg4 h4
              go_wp2
              go_ret
              exact ⟨A4, c4, _, rfl, H4.out, HBW.out.trans (HB4.out.mono HBW.out.size)⟩
      · obtain ⟨g, o, rfl, _⟩ := HL0.out.at_ (show 0 < k by omega)
        go_wp2_with (at_builtin; refine wpList_pushAllV rfl (.tmp 35) (.tmp 38) rfl w1.heap.size (.slice none 0 0) [] rfl (RowV.nil _ _) (some ⟨g, o, none⟩) k c (vs.take k) rfl ?hnc ?hulc ?hslc ?hic ?hlc ?hbc ?hrc)
        case hnc => exact fun h => by cases h
        case hulc => rw [List.length_take, HV.out]; omega
        case hslc =>
          intro j hj
          rw [List.getElem?_take, if_pos hj]
          exact HRS.out.slice (j := j) (by rw [HLL.out]; omega)
        case hic =>
          intro hp
          obtain ⟨g', o', e, hc⟩ := HC.out (by omega)
          exact ⟨g', o', e, fun j hj => by rw [List.getElem?_take, if_pos hj]; exact hc j (by omega)⟩
        case hlc => simp; omega
        case hbc => exact Nat.le_refl _
        case hrc =>
          intro v2 w2 hr2 hg2
          have HB2 := Lib.hid (below_grownV (Below.refl _ _) hg2 (Nat.le_refl _) (RowV.nil w1 _) (Nat.le_refl _))
          have HR2 : Hid (RowV w2 w1.heap.size v2 (vs.take k)) := Lib.hid hr2
          have hsz2 := HB2.out.size
          clear hr2 hg2
          go_wp2_with (at_builtin; refine wpList_pushV rfl (.tmp 40) (.tmp 42) rfl w1.heap.size v2 (vs.take k) rfl (HR2.out.alloc _) w2.heap.size 1 B n d rfl ?hc2c ?hl2c ?hb2c ?hr2c)
          case hc2c => exact (cell_new w2 #[.slice B n d] 22 0).trans rfl
          case hl2c => rw [List.length_take, HV.out]; omega
          case hb2c => exact le_alloc hsz2 _
          case hr2c =>
            intro v3 w3 hr3 hg3 _
            have HB3 : Hid (Below w1.heap.size w1 w3) := Lib.hid (below_grownV (HB2.out.alloc HB2.out.size _) hg3 (le_alloc hsz2 _) (HR2.out.alloc _) (Nat.le_refl _))
            have HR3 := Lib.hid hr3
            have hsz3 := HB3.out.size
            clear hr3 hg3
            rcases Nat.lt_or_ge k c with hck | hck
            · go_wp2_with (at_builtin; refine wpList_pushAllV rfl (.tmp 44) (.tmp 47) rfl w1.heap.size v3 (vs.take k ++ [.slice B n d]) rfl HR3.out (some ⟨g, o + k, none⟩) 0 (c - k) (vs.drop k) rfl ?hn3c ?hul3c ?hsl3c ?hi3c ?hl3c ?hb3c ?hr3c)
              case hul3c => rw [List.length_drop, HV.out]; omega
              case hsl3c =>
                intro j hj
                rw [List.getElem?_drop]
                exact HRS.out.slice (j := k + j) (by rw [HLL.out]; omega)
              case hi3c => exact fun hp => absurd hp (by decide)
              case hl3c => first | omega | (simp; done) | (simp; omega)
              case hb3c => omega
              case hr3c =>
                intro v4 w4 hr4 hg4
                have HB4 : Hid (Below w1.heap.size w1 w4) := Lib.hid (below_grownV HB3.out hg4 (by omega) HR3.out (Nat.le_refl _))
                have HRS4 : Hid (Rows3 w4 (vs.take k ++ [.slice B n d] ++ vs.drop k) (l.take k ++ [x] ++ l.drop k)) := Lib.hid ((((HRS.out.below HB4.out).take k).append (Rows3.one (HX.out.below HB4.out) HD.out HB.out (HO.out.below HB4.out))).append ((HRS.out.below HB4.out).drop k))
                have HT2 : Hid (putF l x = l.take k ++ [x] ++ l.drop k) := Lib.hid (by rw [HT.out]; simp)
                have hr4 : RowV w4 w1.heap.size v4 (vs.take k ++ [.slice B n d] ++ vs.drop k) := by simpa using hr4
                obtain ⟨A4, c4, rfl, h4⟩ := RowV.beds3 hr4 HRS4.out (by rw [← HT2.out]; exact HPL.out)
                rw [← HT2.out] at h4 ⊢
                have H4 := Lib.hid h4
                clear hr4 hg4 h4
                go_wp2
                go_ret
                exact ⟨A4, c4, _, rfl, H4.out, HBW.out.trans (HB4.out.mono HBW.out.size)⟩
            · obtain rfl : c = k := by omega
              go_wp2_with (at_builtin; refine wpList_pushAllV rfl (.tmp 44) (.tmp 47) rfl w1.heap.size v3 (vs.take c ++ [.slice B n d]) rfl HR3.out (some ⟨g, o, none⟩) 0 0 (vs.drop c) rfl ?hn3d ?hul3d ?hsl3d ?hi3d ?hl3d ?hb3d ?hr3d)
              case hul3d => rw [List.length_drop, HV.out]; omega
              case hsl3d =>
                intro j hj
                rw [List.getElem?_drop]
                exact HRS.out.slice (j := c + j) (by rw [HLL.out]; omega)
              case hi3d => exact fun hp => absurd hp (by decide)
              case hl3d => first | omega | (simp; done) | (simp; omega)
              case hb3d => omega
              case hr3d =>
                intro v4 w4 hr4 hg4
                have HB4 : Hid (Below w1.heap.size w1 w4) := Lib.hid (below_grownV HB3.out hg4 (by omega) HR3.out (Nat.le_refl _))
                have HRS4 : Hid (Rows3 w4 (vs.take c ++ [.slice B n d] ++ vs.drop c) (l.take c ++ [x] ++ l.drop c)) := Lib.hid ((((HRS.out.below HB4.out).take c).append (Rows3.one (HX.out.below HB4.out) HD.out HB.out (HO.out.below HB4.out))).append ((HRS.out.below HB4.out).drop c))
                have HT2 : Hid (putF l x = l.take c ++ [x] ++ l.drop c) := Lib.hid (by rw [HT.out]; simp)
                have hr4 : RowV w4 w1.heap.size v4 (vs.take c ++ [.slice B n d] ++ vs.drop c) := by simpa using hr4
                obtain ⟨A4, c4, rfl, h4⟩ := RowV.beds3 hr4 HRS4.out (by rw [← HT2.out]; exact HPL.out)
                rw [← HT2.out] at h4 ⊢
                have H4 := Lib.hid h4
                clear hr4 hg4 h4
                go_wp2
                go_ret
                exact ⟨A4, c4, _, rfl, H4.out, HBW.out.trans (HB4.out.mono HBW.out.size)⟩
end Go.Proofs.Ytpehhbiodmgjeaa
