/- Walks: BedFills. -/
import Derived.Test.YtiodednhadnekaaDoorW38
import Derived.RowKit3
namespace Go.Proofs.YtiodednhadnekaaDoor
open Go.RowKit Go.Deep
attribute [local go_sem ↓] Go.wp_at_zero Go.wp_at_succ

/-- Rows of new memory of which the first number may be written. -/
def XI (base k : Nat) (A : Option Addr) (w : World) : Prop := ∀ i, i < k → ∃ g o, A = some ⟨g, o, none⟩ ∧ ∃ g' m d, w.cell? ⟨g, o + i, none⟩ = some (.slice (some ⟨g', 0, none⟩) m d) ∧ 0 < m ∧ m ≤ 1000000 ∧ base ≤ g' ∧ (∃ z, w.cell? ⟨g', 0, none⟩ = some (.int .i64 z)) ∧ w.frozen? ⟨g', 0, none⟩ = false
theorem XI.set_ {base k : Nat} {A : Option Addr} {w : World} (h : XI base k A w) {g' : Nat} {z : Int} (hc : w.cell? ⟨g', 0, none⟩ = some (.int .i64 z)) (x : Int) : XI base k A (w.setCell ⟨g', 0, none⟩ (.int .i64 x)) := fun i hi => by
  obtain ⟨g, o, e, g2, m, d, h1, h2, h2', h3, ⟨y, h4⟩, h5⟩ := h i hi
  refine ⟨g, o, e, g2, m, d, ?_, h2, h2', h3, ?_, (World.frozen?_setCell _ _ _ _).trans h5⟩
  · refine (World.cell?_setCell_other w ⟨g', 0, none⟩ ⟨g, o + i, none⟩ _ (fun e2 => ?_)).trans h1
    rw [← e2, hc] at h1
    cases h1
  · by_cases e2 : g' = g2
    · subst e2
      exact ⟨x, World.cell?_setCell_same w ⟨g', 0, none⟩ _ h4⟩
    · exact ⟨y, (World.cell?_setCell_other w ⟨g', 0, none⟩ ⟨g2, 0, none⟩ _ (fun e3 => e2 (by injection e3))).trans h4⟩
theorem BedsN.xi {w : World} {base : Nat} {A : Option Addr} {k c : Nat} {b : List (List Int)} (h : BedsN w base A k c b) (hr : ∀ j, j < k → 0 < (b.getD j []).length ∧ (b.getD j []).length ≤ 1000000) : XI base k A w := fun i hi => by
  obtain ⟨g, o, e, hc⟩ := h.2.2.2.2 (by omega)
  obtain ⟨v, hv, B, d, e2, h2, h3, h4, h5⟩ := hc i hi
  obtain ⟨hr1, hr2⟩ := hr i hi
  obtain ⟨g', eB, hb', hf⟩ := h5 hr1
  subst eB
  rw [e2] at hv
  obtain ⟨b2, o2, e3, hc3⟩ := h4.at_ hr1
  injection e3 with e3
  injection e3 with e4 e5
  subst e4 e5
  exact ⟨g, o, e, g', _, d, hv, hr1, hr2, hb', ⟨_, hc3⟩, hf 0⟩
theorem fillL_rows {b : List (List Int)} : ∀ j, j < (fillL b).length → 0 < ((fillL b).getD j []).length ∧ ((fillL b).getD j []).length ≤ 1000000 := by
  unfold fillL
  split
  · rename_i hb
    split
    · obtain ⟨h1, h2, h3⟩ := bedB_iff.1 hb
      have hs := (fillTo_bed h3 (Nat.le_refl _)).shape
      intro j hj
      rw [hs.1] at hj
      rw [hs.2 j hj]
      omega
    · intro j hj; simp at hj
  · intro j hj; simp at hj
set_option maxRecDepth 100000 in
set_option maxHeartbeats 8000000 in
/-- dibberlaw01.BedFills -/
theorem f3_any (A : Option Addr) (n c : Nat) (b : List (List Int)) (w : World) (hs : CameB w A n c b) (ht : Tab w) :
    Calls Tryd.prog 3 #[.slice A n c] w fun e w' => e = .returned (.bool true) ∧ Below w.heap.size w w' := by
  have K16 := Lib.hid (f16_any A c n (b.map List.length) w hs.1)
  have HT := Lib.hid ht
  cases hf : fewB (b.map List.length)
  · rw [hf] at K16
    have K17 := Lib.hid (f17_any w ht)
    clear hs hf ht
    go_enter Tryd.func3, Tryd.ntmps3
    go_wp2_with fail
    refine K16.out.mono ?_
    rintro e w1 ⟨rfl, rfl⟩
    go_wp2_with fail
    refine K17.out.mono ?_
    rintro e w2 ⟨rfl, hb⟩
    have HB := Lib.hid hb
    clear hb
    go_wp2
    go_ret
    exact ⟨rfl, HB.out⟩
  · rw [hf] at K16
    have hB := hs.beds hf
    have HB := Lib.hid hB
    have hbl := hB.len
    obtain ⟨hl20, hr20⟩ := few_false hf
    have K18 := Lib.hid (f18_any A n c b w hB (fun j => by have := hr20 j; omega) (by omega))
    have HROWS := Lib.hid (fillL_rows (b := b))
    have hq : (fillE b != fillE b) = false := by simp
    clear hs hf ht hB hr20
    go_enter Tryd.func3, Tryd.ntmps3
    go_wp2_with fail
    refine K16.out.mono ?_
    rintro e w1 ⟨rfl, rfl⟩
    go_wp2_with fail
    refine K18.out.mono ?_
    rintro e w2 ⟨A2, k2, c2, rfl, hy, hb2⟩
    have HY := Lib.hid hy
    have HB2 := Lib.hid hb2
    have HT2 := Lib.hid (HT.out.below hb2)
    have HBB := Lib.hid (HB.out.below hb2)
    have hk2 := hy.len
    clear hy hb2 K18 K16
    go_wp2
    go_loopw [5] (fun ti wr => ∃ t : Nat, t ≤ 2 ∧ ti = .int .i64 (t : Int) ∧ Below w2.heap.size w2 wr) (fun ti _ => 2 - (intOf ti).toNat)
    case atStart => exact ⟨0, by omega, rfl, Below.refl _ _⟩
    case round => as_aux_lemma =>
      obtain ⟨t, ht, rfl, hbel⟩ := hrel
      have HBL := Lib.hid hbel
      by_cases htn : t < 2
      · have K19 := Lib.hid (f19_any A n c b wr (HBB.out.below hbel) (HT2.out.below hbel))
        have t2 : (t : Int) < 2 := by omega
        clear hbel
        go_wp2_with fail
        refine K19.out.mono ?_
        rintro e w3 ⟨A3, k3, c3, rfl, hN, hb3⟩
        have hk3 : (fillL b).length = k3 := hN.1
        have hk3s := hN.2.1
        have HXI := Lib.hid ((hN.mono HBL.out.size).xi fun j hj => HROWS.out j (by omega))
        have K20 := f20_any A3 A2 k3 c3 k2 c2 (fillL b) (fillL b) w3 hN.beds ((HY.out.below HBL.out).below hb3)
        rw [show decide (fillL b = fillL b) = true from decide_eq_true rfl] at K20
        have K20 := Lib.hid K20
        have HB3 := Lib.hid hb3
        clear hN hb3 K19
        go_wp2_with fail
        refine K20.out.mono ?_
        rintro e w4 ⟨rfl, q, rfl⟩
        obtain ⟨w5, hw5⟩ : ∃ z, z = w3.drewN q := ⟨_, rfl⟩
        have HX5 : Hid (XI w2.heap.size k3 A3 w5) := Lib.hid (by rw [hw5]; exact HXI.out)
        have HB5 : Hid (Below w2.heap.size w2 w5) := Lib.hid (by rw [hw5]; exact below_drewN (HBL.out.trans (HB3.out.mono HBL.out.size)) q)
        rw [← hw5]
        clear hw5 K20 HXI HB3
        go_wp2
        go_loopw [8] (fun ii wi => ∃ i : Nat, i ≤ k3 ∧ ii = .int .i64 (i : Int) ∧ XI w2.heap.size k3 A3 wi ∧ Below w2.heap.size w2 wi) (fun ii _ => k3 - (intOf ii).toNat)
        case atStart => exact ⟨0, by omega, rfl, HX5.out, HB5.out⟩
        case round => as_aux_lemma =>
          obtain ⟨i, hi, rfl, hx, hbi⟩ := hrel
          have HBI := Lib.hid hbi
          by_cases hin : i < k3
          · obtain ⟨g, o, rfl, g', m, d, h1, h2, h2', h3, ⟨z, h4⟩, h5⟩ := hx i hin
            have HX6 := Lib.hid (hx.set_ h4 (-9))
            have HB6 : Hid (Below w2.heap.size w2 (wr.setCell ⟨g', 0, none⟩ (.int .i64 (-9)))) := Lib.hid (hbi.setCell h3 _)
            have i0 : (0 : Int) ≤ (i : Int) := by omega
            have inn : (i : Int) < (k3 : Int) := by omega
            have m0 : (0 : Int) < (m : Int) := by omega
            clear hx hbi h3
            go_wp2
            go_roundw
            case rel => exact ⟨i + 1, by omega, by go_num, HX6.out, HB6.out⟩
            case measure => simp [intOf]; omega
          · obtain rfl : i = k3 := by omega
            clear hx hbi
            go_wp2
            go_roundw
            case rel => exact ⟨t + 1, by omega, by go_num, HBI.out⟩
            case measure => simp [intOf]; omega
      · obtain rfl : t = 2 := by omega
        have K17 := Lib.hid (f17_any wr (HT2.out.below hbel))
        clear hbel
        go_wp2_with fail
        refine K17.out.mono ?_
        rintro e w6 ⟨rfl, hb6⟩
        have HB6 : Hid (Below w.heap.size w w6) := Lib.hid ((HB2.out.trans (HBL.out.mono HB2.out.size)).trans (hb6.mono (by have := HB2.out.size; have := HBL.out.size; omega)))
        clear hb6
        go_wp2
        go_ret
        exact ⟨rfl, HB6.out⟩
end Go.Proofs.YtiodednhadnekaaDoor
