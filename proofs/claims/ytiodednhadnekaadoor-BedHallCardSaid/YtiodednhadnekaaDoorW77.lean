/- Walks: BedHall. -/
import Derived.Test.YtiodednhadnekaaDoorW75
import Derived.Test.YtiodednhadnekaaDoorW76
namespace Go.Proofs.YtiodednhadnekaaDoor
open Go.RowKit Go.Deep
attribute [local go_sem ↓] Go.wp_at_zero Go.wp_at_succ

theorem app_row {w : World} {base : Nat} {v : Value} {m : Nat} {b : List (List Int)} {l : List Int} {us : List Value} {A : Option Addr} {c : Nat}
    (h : RowV w base v (us ++ [.slice A l.length c])) (hul : us.length = m) (hbl : b.length = m) (hm : m ≤ 1000)
    (hus : ∀ j, j < m → ∃ B d, us[j]? = some (.slice B (b.getD j []).length d) ∧ (b.getD j []).length ≤ d ∧ (B = none → (b.getD j []).length = 0 ∧ d = 0) ∧ Ints w B (b.getD j []).length (b.getD j []))
    (hc : l.length ≤ c) (hA : A ≠ none) (hi : Ints w A l.length l) : ∃ A' c', v = .slice A' (b ++ [l]).length c' ∧ Beds w A' (b ++ [l]).length c' (b ++ [l]) := by
  refine RowV.beds h (by simp [hul, hbl]) (by simp; omega) fun j hj => ?_
  rw [List.length_append, List.length_singleton] at hj
  rcases Nat.lt_or_ge j m with h1 | h1
  · have e : (b ++ [l]).getD j [] = b.getD j [] := by rw [List.getD_eq_getElem?_getD, List.getElem?_append_left (by omega), ← List.getD_eq_getElem?_getD]
    rw [e]
    obtain ⟨B, d, h2, h3⟩ := hus j h1
    exact ⟨B, d, by rw [List.getElem?_append_left (by omega)]; exact h2, h3⟩
  · obtain rfl : j = m := by omega
    have e : (b ++ [l]).getD j [] = l := by rw [List.getD_eq_getElem?_getD, List.getElem?_append_right (by omega)]; simp [hbl]
    rw [e]
    exact ⟨A, c, by rw [List.getElem?_append_right (by omega)]; simp [hul], hc, fun h => absurd h hA, hi⟩
set_option maxRecDepth 100000 in
set_option maxHeartbeats 8000000 in
/-- dibberlaw01.BedHall -/
theorem f15_any (N : Int) (A : Option Addr) (m c : Nat) (b : List (List Int)) (w : World) (hs : CameB w A m c b) (ht : Tab w) :
    Calls Tryd.prog 15 #[.int .i64 N, .slice A m c] w fun e w' => e = .returned (.bool true) ∧ Below w.heap.size w w' := by
  have K16 := Lib.hid (f16_any A c m (b.map List.length) w hs.1)
  have HT := Lib.hid ht
  cases hf : fewB (b.map List.length)
  · rw [hf] at K16
    have K17 := Lib.hid (f17_any w ht)
    clear hs hf ht
    go_enter Tryd.func15, Tryd.ntmps15
    go_wp2_with fail
    refine K16.out.mono ?_
    rintro e w1 ⟨rfl, rfl⟩
    go_wp2_with fail
    refine K17.out.mono ?_
    rintro e w2 ⟨rfl, hb⟩
    have HB := Lib.hid hb
    clear hb
    go_wp2
    go_ret
    exact ⟨rfl, HB.out⟩
  · rw [hf] at K16
    have hB := hs.beds hf
    have HB := Lib.hid hB
    have K45 := Lib.hid (f45_cap N A m c b w hB ht)
    cases hst : startB N b
    · have HE : Hid (rwL N b = [] ∧ rwE N b = 2 ∧ roN N b = 0 ∧ roE N b = 2) := by
        unfold rwL rwE roN roE; rw [hst]; exact ⟨rfl, rfl, rfl, rfl⟩
      rw [HE.out.1, HE.out.2.1] at K45
      have K45 := Lib.hid K45.out
      have HST := Lib.hid hst
      clear hs hf ht hB hst
      go_enter Tryd.func15, Tryd.ntmps15
      go_wp2_with fail
      refine K16.out.mono ?_
      rintro e w1 ⟨rfl, rfl⟩
      go_wp2_with fail
      refine K45.out.mono ?_
      rintro e w2 ⟨A2, c2, rfl, _, _, hb2⟩
      have B2 := Lib.hid hb2
      have K47 := f47_any N A m c b w2 (HB.out.below hb2)
      rw [HE.out.2.2.1, HE.out.2.2.2] at K47
      have K47 := Lib.hid K47
      clear hb2
      go_wp2_with fail
      refine K47.out.mono ?_
      rintro e w3 ⟨rfl, hb3⟩
      have B3 := Lib.hid (below_step B2.out hb3)
      clear hb3
      have K49 := f49_any N A m c b w3 (HB.out.below B3.out)
      rw [HST.out] at K49
      have K49 := Lib.hid K49
      go_wp2_with fail
      refine K49.out.mono ?_
      rintro e w4 ⟨rfl, rfl⟩
      have K17 := Lib.hid (f17_any w3 (HT.out.below B3.out))
      go_wp2_with fail
      refine K17.out.mono ?_
      rintro e w5 ⟨rfl, hb5⟩
      have B5 := Lib.hid (below_step B3.out hb5)
      clear hb5
      go_wp2
      go_ret
      exact ⟨rfl, B5.out⟩
    · obtain ⟨n, rfl⟩ := startB_neg hst
      have hS := startB_iff.1 hst
      have hbl := hB.len
      have hn7 := hS.n7
      have hn1 := hS.n1
      have hsl := hS.len
      rcases Nat.lt_or_ge b.length n with hlt | hge
      · obtain ⟨t, T, hT, htl⟩ := rwS_some hS hlt
        have hrow : IsRow n b t := (mem_rwS t).1 (by rw [hT]; exact List.mem_cons_self ..)
        have HE : Hid (rwL n b = zs t ∧ rwE n b = 0 ∧ roN n b = ((rwS n b).length : Int) ∧ roE n b = 0) := Lib.hid (by
          unfold rwL rwE roN roE
          rw [if_pos ⟨hst, by omega⟩, if_pos hst, if_neg (by omega), if_pos ⟨hst, by omega⟩, if_pos hst]
          exact ⟨by show zs ((rwS n b).headD []) = _; rw [hT]; rfl, rfl, rfl, rfl⟩)
        have HST2 : Hid (startB n (b ++ [zs t]) = true) := Lib.hid (startB_iff.2 (start_more hS hlt hrow))
        have hmany := start_many hS hlt
        rw [HE.out.1, HE.out.2.1] at K45
        have K45 := Lib.hid K45.out
        have HST := Lib.hid hst
        have hzl : (zs t).length = n := by rw [zs_len]; exact htl
        have HZL := Lib.hid hzl
        have hq : ((m : Int) == (n : Int)) = false := by rw [beq_eq_false_iff_ne]; omega
        have K50 : Hid (∀ W, Calls Tryd.prog 50 #[.int .i64 ((n : Int) - (m : Int))] W fun e w' => e = .returned (.int .i64 (factN (n - m) : Int)) ∧ W = w') := Lib.hid fun W => by
          have h := f50_any (n - m) W (by omega)
          rw [show ((n - m : Nat) : Int) = (n : Int) - (m : Int) by omega] at h
          exact h
        rw [hbl] at hmany hlt
        obtain ⟨R, hR⟩ : ∃ z, z = (rwS n b).length := ⟨_, rfl⟩
        rw [← hR] at hmany HE
        have hge : (factN (n - m) : Int) ≤ (R : Int) := by omega
        generalize factN (n - m) = F at *
        have HBL := Lib.hid hbl
        clear hs hf ht hB hst hS hT htl hrow hR hbl hsl hzl
        go_enter Tryd.func15, Tryd.ntmps15
        go_wp2_with fail
        refine K16.out.mono ?_
        rintro e w1 ⟨rfl, rfl⟩
        go_wp2_with fail
        refine K45.out.mono ?_
        rintro e w2 ⟨A2, c2, rfl, hcap, hi2, hb2⟩
        have B2 := Lib.hid hb2
        have K47 := f47_any n A m c b w2 (HB.out.below hb2)
        rw [HE.out.2.2.1, HE.out.2.2.2] at K47
        have K47 := Lib.hid K47
        have HCAP := Lib.hid hcap
        have HI2 := Lib.hid hi2
        clear hb2 hcap hi2
        go_wp2_with fail
        refine K47.out.mono ?_
        rintro e w3 ⟨rfl, hb3⟩
        have B3 := Lib.hid (below_step B2.out hb3)
        have HI3 := Lib.hid (HI2.out.below hb3)
        clear hb3
        have HB3 := Lib.hid (HB.out.below B3.out)
        have K49 := f49_any n A m c b w3 HB3.out
        rw [HST.out] at K49
        have K49 := Lib.hid K49
        go_wp2_with fail
        refine K49.out.mono ?_
        rintro e w4 ⟨rfl, rfl⟩
        obtain ⟨us, hul, hus, hui⟩ := HB3.out.vals
        have HUS := Lib.hid hus
        have HUI := Lib.hid hui
        have HSL : Hid (∀ j, j < m → ∃ B n d, us[j]? = some (.slice B n d)) := Lib.hid (fun j hj => by
          obtain ⟨B, d, h1, _⟩ := hus j hj
          exact ⟨B, _, d, h1⟩)
        have HUI5 : Hid (0 < m → ∃ g o, A = some ⟨g, o, none⟩ ∧ ∀ j, j < m → (w3.alloc (.cells #[] 29)).cell? ⟨g, o + j, none⟩ = us[j]?) := Lib.hid (by
          intro hm
          obtain ⟨g, o, e, h1⟩ := hui hm
          refine ⟨g, o, e, fun j hj => ?_⟩
          obtain ⟨B, d, h2, _⟩ := hus j hj
          have h3 := h1 j hj
          rw [h2] at h3 ⊢
          exact ((below_alloc w3 _).cell (lt_of_cell h3)).trans h3)
        have HNIL : Hid (A = none → m = 0 ∧ c = 0) := HB.out.2.2.2.1
        clear hus hui K49 K47 K45 K16
        go_wp2_with (at_builtin; refine wpList_pushAllV rfl (.tmp 70) (.tmp 71) rfl w3.heap.size _ [] rfl (RowV.empty _ _ (Nat.le_refl _)) A m c us rfl ?hn ?hul ?hsl ?hi ?hl ?hb ?hr)
        case hn => exact HNIL.out
        case hul => exact hul
        case hsl => exact HSL.out
        case hi => exact HUI5.out
        case hl => simp; omega
        case hb => exact (below_alloc w3 _).size
        case hr =>
          intro v1 w4 hr1 hg1
          have hb4 : Below w3.heap.size w3 w4 := below_grownV (below_alloc w3 _) hg1 (below_alloc w3 _).size (RowV.empty _ _ (Nat.le_refl _)) (Nat.le_refl _)
          have B4 := Lib.hid hb4
          have HR4 := Lib.hid hr1
          have HR5 : Hid (RowV (w4.alloc (.cells #[.slice A2 (zs t).length c2] 29)) w3.heap.size v1 us) := Lib.hid (hr1.alloc _)
          have HC5 : Hid ((w4.alloc (.cells #[.slice A2 (zs t).length c2] 29)).cell? ⟨w4.heap.size, 0, none⟩ = some (.slice A2 (zs t).length c2)) := Lib.hid (cell_new w4 _ 29 0)
          have B5 := Lib.hid (hb4.alloc hb4.size (.cells #[.slice A2 (zs t).length c2] 29))
          clear hr1 hg1 hb4
          go_wp2_with (at_builtin; refine wpList_pushV rfl (.tmp 72) (.tmp 74) rfl w3.heap.size v1 us rfl HR5.out w4.heap.size 1 A2 (zs t).length c2 rfl ?hc2 ?hl2 ?hb2 ?hr2)
          case hc2 => exact HC5.out
          case hl2 => omega
          case hb2 => exact B5.out.size
          case hr2 =>
            intro v2 w6 hr2 hg2 _
            have hb6 : Below w3.heap.size w3 w6 := below_grownV B5.out hg2 B5.out.size HR5.out (Nat.le_refl _)
            have hA2 : A2 ≠ none := fun e => by
              obtain ⟨_, _, e3, _⟩ := HI3.out.at_ (show 0 < (zs t).length by rw [HZL.out]; omega)
              rw [e] at e3; cases e3
            obtain ⟨A6, c6, rfl, hbeds⟩ := app_row hr2 hul HBL.out (by omega) (fun j hj => by
              obtain ⟨B, d, h1, h2, h3, h4⟩ := HUS.out j hj
              exact ⟨B, d, h1, h2, h3, h4.below hb6⟩) HCAP.out hA2 (HI3.out.below hb6)
            have K49 := f49_any n A6 (b ++ [zs t]).length c6 (b ++ [zs t]) w6 hbeds
            rw [HST2.out] at K49
            have K49 := Lib.hid K49
            have B6 := Lib.hid (below_step B3.out hb6)
            have K50 := Lib.hid (K50.out w6)
            generalize (b ++ [zs t]).length = m6 at *
            clear hr2 hg2 hb6 hbeds HR4 HR5 HC5 B5 B4
            go_wp2_with fail
            refine K50.out.mono ?_
            rintro e w7 ⟨rfl, rfl⟩
            go_wp2_with fail
            refine K49.out.mono ?_
            rintro e w7 ⟨rfl, rfl⟩
            have K17 := Lib.hid (f17_any w6 (HT.out.below B6.out))
            go_wp2_with fail
            refine K17.out.mono ?_
            rintro e w8 ⟨rfl, hb8⟩
            have B8 := Lib.hid (below_step B6.out hb8)
            clear hb8
            go_wp2
            go_ret
            exact ⟨rfl, B8.out⟩
      · have HE : Hid (rwL n b = [] ∧ rwE n b = 10 ∧ roN n b = 0 ∧ roE n b = 0) := Lib.hid (by
          unfold rwL rwE roN roE
          rw [if_neg (fun h => h.2 (by omega)), if_pos hst, if_pos (by omega), if_neg (fun h => h.2 (by omega)), if_pos hst]
          exact ⟨rfl, rfl, rfl, rfl⟩)
        rw [HE.out.1, HE.out.2.1] at K45
        have K45 := Lib.hid K45.out
        have HST := Lib.hid hst
        have hq : ((m : Int) == (n : Int)) = true := by rw [beq_iff_eq]; omega
        clear hs hf ht hB hst hS
        go_enter Tryd.func15, Tryd.ntmps15
        go_wp2_with fail
        refine K16.out.mono ?_
        rintro e w1 ⟨rfl, rfl⟩
        go_wp2_with fail
        refine K45.out.mono ?_
        rintro e w2 ⟨A2, c2, rfl, _, _, hb2⟩
        have B2 := Lib.hid hb2
        have K47 := f47_any n A m c b w2 (HB.out.below hb2)
        rw [HE.out.2.2.1, HE.out.2.2.2] at K47
        have K47 := Lib.hid K47
        clear hb2
        go_wp2_with fail
        refine K47.out.mono ?_
        rintro e w3 ⟨rfl, hb3⟩
        have B3 := Lib.hid (below_step B2.out hb3)
        clear hb3
        have K49 := f49_any n A m c b w3 (HB.out.below B3.out)
        rw [HST.out] at K49
        have K49 := Lib.hid K49
        go_wp2_with fail
        refine K49.out.mono ?_
        rintro e w4 ⟨rfl, rfl⟩
        have K17 := Lib.hid (f17_any w3 (HT.out.below B3.out))
        go_wp2_with fail
        refine K17.out.mono ?_
        rintro e w5 ⟨rfl, hb5⟩
        have B5 := Lib.hid (below_step B3.out hb5)
        clear hb5
        go_wp2
        go_ret
        exact ⟨rfl, B5.out⟩
end Go.Proofs.YtiodednhadnekaaDoor
