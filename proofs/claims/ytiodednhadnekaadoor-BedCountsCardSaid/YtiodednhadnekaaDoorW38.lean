/- Walks: the specification's Fill. -/
import Derived.Test.YtiodednhadnekaaDoorW37
namespace Go.Proofs.YtiodednhadnekaaDoor
open Go.RowKit Go.Deep
attribute [local go_sem ↓] Go.wp_at_zero Go.wp_at_succ

theorem crops_at {n : Nat} {b : List (List Int)} {r c x : Nat} (hx : x < n) (hf : freeB n b r c x = true) : ∃ suf, crops n b r c = (List.range x).filter (freeB n b r c) ++ x :: suf := by
  have e : n = x + ((n - x - 1) + 1) := by omega
  have h1 : List.range n = List.range x ++ (List.range ((n - x - 1) + 1)).map (x + ·) := by
    conv => lhs; rw [e]
    exact List.range_add
  unfold crops
  rw [h1, List.filter_append, List.range_succ_eq_map]
  simp only [List.map_cons, Nat.add_zero]
  rw [List.filter_cons, if_pos hf]
  exact ⟨_, rfl⟩
theorem fillStep_at {n : Nat} {b : List (List Int)} {r c x : Nat} (h0 : gAt b r c < 0) (hx : x < n) (hf : freeB n b r c x = true) (hno : ∀ y, y < x → y ∈ crops n b r c → canB n (gset b r c (y : Nat)) = false) (hcan : canB n (gset b r c (x : Nat)) = true) : fillStep n b r c = gset b r c (x : Nat) := by
  obtain ⟨suf, hs⟩ := crops_at hx hf
  refine fillStep_hit h0 hs (fun y hy => ?_) hcan
  obtain ⟨h1, h2⟩ := List.mem_filter.1 hy
  have h3 := List.mem_range.1 h1
  exact hno y h3 (List.mem_filter.2 ⟨List.mem_range.2 (by omega), h2⟩)
theorem fillRow_succ (n : Nat) (b : List (List Int)) (r c : Nat) : fillRow n b r (c + 1) = fillStep n (fillRow n b r c) r c := rfl
theorem fillTo_succ (n : Nat) (b : List (List Int)) (r : Nat) : fillTo n b (r + 1) = fillRow n (fillTo n b r) r n := rfl
/-- How the place (r, c) stands when the crops below x were tried. -/
def FillS (gO : Nat) (gr cr : Nat → Nat) (n : Nat) (b : List (List Int)) (r c x : Nat) (w : World) : Prop :=
  (GridM w gO gr cr n b ∧ gAt b r c < 0 ∧ ∀ y, y < x → y ∈ crops n b r c → canB n (gset b r c (y : Nat)) = false) ∨ (GridM w gO gr cr n (fillStep n b r c) ∧ 0 ≤ gAt (fillStep n b r c) r c)
set_option maxRecDepth 100000 in
set_option maxHeartbeats 8000000 in
/-- dibberref01.Fill -/
theorem f18_any (A : Option Addr) (n c : Nat) (b : List (List Int)) (w : World) (hs : Beds w A n c b) (hrow : ∀ j, (b.getD j []).length ≤ 1000) (hn1000 : n ≤ 1000) :
    Calls Tryd.prog 18 #[.slice A n c] w fun e w' => ∃ A' k c', e = .returned (.tuple #[.slice A' k c', .int .i64 (fillE b)]) ∧ Beds w' A' k c' (fillL b) ∧ Below w.heap.size w w' := by
  have K37 := Lib.hid (f37_any A n c b w hs)
  have hbl := hs.len
  cases hbed : bedB b
  · rw [hbed] at K37
    have HE : Hid (fillE b = 2 ∧ fillL b = []) := by unfold fillE fillL; rw [hbed]; exact ⟨rfl, rfl⟩
    clear hs hbed
    go_enter Tryd.func18, Tryd.ntmps18
    go_wp2_with fail
    refine K37.out.mono ?_
    rintro e w1 ⟨rfl, rfl⟩
    go_wp2
    go_ret2
    exact ⟨none, 0, 0, by rw [HE.out.1]; rfl, by rw [HE.out.2]; exact Beds.nil _, Below.refl _ _⟩
  · rw [hbed] at K37
    obtain ⟨hn1, hn7, hB⟩ := find_bed hbed hbl
    have HB := Lib.hid hB
    have HE : Hid (fillE b = (if canB n b = true then 0 else 10) ∧ fillL b = if canB n b = true then fillTo n b n else []) := by unfold fillE fillL; rw [hbed, hbl]; exact ⟨rfl, rfl⟩
    have K24 := Lib.hid (f24_own A n c b w hs hrow hn1000)
    clear hs hbed hrow hB
    go_enter Tryd.func18, Tryd.ntmps18
    go_wp2_with fail
    refine K37.out.mono ?_
    rintro e w1 ⟨rfl, rfl⟩
    go_wp2_with fail
    refine K24.out.mono ?_
    rintro e w2 ⟨v, rfl, hv, hb2⟩
    obtain ⟨gO, gr, cr, cO, rfl, hg, hcO, hbO, hbr⟩ := hv.grid HB.out.shape hn1 hn7
    have HB2 := Lib.hid hb2
    have HG := Lib.hid hg
    have HBR : Hid (∀ i, OwnG n gr i → w.heap.size ≤ i) := Lib.hid fun i ⟨r, hr, e⟩ => by rw [e]; exact hbr r hr
    have K51 := Lib.hid (f51_any gO gr cr n cO hn7 hcO b HB.out w2 hg)
    clear hv hb2 hg hbO hbr K24 K37
    cases hcan : canB n b
    · rw [hcan] at K51 HE
      have HE2 : Hid (fillE b = 10 ∧ fillL b = []) := HE.out
      clear hcan HE
      go_wp2_with fail
      refine K51.out.mono ?_
      rintro e w3 ⟨rfl, hk3, hg3⟩
      have B3 := Lib.hid (hk3.below HB2.out HB2.out.size HBR.out)
      clear hk3 hg3
      go_wp2
      go_ret2
      exact ⟨none, 0, 0, by rw [HE2.out.1]; rfl, by rw [HE2.out.2]; exact Beds.nil _, B3.out⟩
    · rw [hcan] at K51 HE
      have HE2 : Hid (fillE b = 0 ∧ fillL b = fillTo n b n) := HE.out
      clear hcan HE
      go_wp2_with fail
      refine K51.out.mono ?_
      rintro e w3 ⟨rfl, hk3, hg3⟩
      have K3 := Lib.hid hk3
      have G3 := Lib.hid hg3
      clear hk3 hg3 K51
      go_wp2
      go_loopw [5] (fun ri wr => ∃ r : Nat, r ≤ n ∧ ri = .int .i64 (r : Int) ∧ Kept (fun _ i => OwnG n gr i) w2 wr ∧ GridM wr gO gr cr n (fillTo n b r)) (fun ri _ => n - (intOf ri).toNat)
      case atStart => exact ⟨0, by omega, rfl, K3.out, G3.out⟩
      case round => as_aux_lemma =>
        obtain ⟨r, hr, rfl, hk, hg⟩ := hrel
        have HK := Lib.hid hk
        have HGr := Lib.hid hg
        by_cases hrn : r < n
        · have HBr := Lib.hid (fillTo_bed HB.out (r := r) (by omega))
          have HSU := Lib.hid (fillTo_succ n b r)
          generalize fillTo n b r = br at *
          have r0 : (0 : Int) ≤ (r : Int) := by omega
          have rn : (r : Int) < (n : Int) := by omega
          clear hk hg
          go_wp2
          go_loopw [6] (fun ci wc => ∃ c : Nat, c ≤ n ∧ ci = .int .i64 (c : Int) ∧ Kept (fun _ i => OwnG n gr i) w2 wc ∧ GridM wc gO gr cr n (fillRow n br r c)) (fun ci _ => n - (intOf ci).toNat)
          case atStart => exact ⟨0, by omega, rfl, HK.out, HGr.out⟩
          case round => as_aux_lemma =>
            obtain ⟨c, hc, rfl, hk, hg⟩ := hrel
            have HK := Lib.hid hk
            have HGr := Lib.hid hg
            by_cases hcn : c < n
            · have HBc := Lib.hid (fillRow_bed HBr.out hrn (c := c) (by omega))
              have HSU2 := Lib.hid (fillRow_succ n br r c)
              generalize fillRow n br r c = bc at *
              have c0 : (0 : Int) ≤ (c : Int) := by omega
              have cn : (c : Int) < (n : Int) := by omega
              have ST : Hid (FillS gO gr cr n bc r c 0 wr) := Lib.hid (by
                by_cases h : gAt bc r c < 0
                · exact .inl ⟨HGr.out, h, fun y hy => absurd hy (by omega)⟩
                · exact .inr ⟨by rw [fillStep_keep (by omega)]; exact HGr.out, by rw [fillStep_keep (by omega)]; omega⟩)
              clear hk hg
              go_wp2
              go_loopw [7] (fun xi wx => ∃ x : Nat, x ≤ n ∧ xi = .int .i64 (x : Int) ∧ Kept (fun _ i => OwnG n gr i) w2 wx ∧ FillS gO gr cr n bc r c x wx) (fun xi _ => n - (intOf xi).toNat)
              case atStart => exact ⟨0, by omega, rfl, HK.out, ST.out⟩
              case round => as_aux_lemma =>
                obtain ⟨x, hx, rfl, hk, hst⟩ := hrel
                have HK := Lib.hid hk
                by_cases hxn : x < n
                · have x0 : (0 : Int) ≤ (x : Int) := by omega
                  have xn : (x : Int) < (n : Int) := by omega
                  rcases hst with ⟨hg, h0, hno⟩ | ⟨hg, h0⟩
                  · have HGr := Lib.hid hg
                    have HH0 := Lib.hid h0
                    have hd0 : decide (gAt bc r c < 0) = true := decide_eq_true h0
                    have K52 := f52_any _ n cO r c x bc wr (hg.beds HBc.out.shape hn7 hcO) HBc.out.shape hrn hcn
                    have c1 := hg.hdr r hrn
                    have c2 := hg.val r c hrn hcn
                    have f2 := hg.frozen hrn c
                    have HBACK : Hid (∀ x : Int, gset (gset bc r c x) r c (-1) = bc) := Lib.hid fun x => by
                      have h1 := (HBc.out.lo r c hrn hcn).1
                      have e : gAt bc r c = -1 := by omega
                      rw [gset_gset HBc.out.shape hrn hcn, ← e, gset_same HBc.out.shape hrn hcn]
                    have HAT : Hid (freeB n bc r c x = true → canB n (gset bc r c (x : Nat)) = true → fillStep n bc r c = gset bc r c (x : Nat)) := Lib.hid fun h1 h2 => fillStep_at h0 hxn h1 hno h2
                    have HN : Hid ((x ∈ crops n bc r c → canB n (gset bc r c (x : Nat)) = false) → ∀ y, y < x + 1 → y ∈ crops n bc r c → canB n (gset bc r c (y : Nat)) = false) := Lib.hid fun hf y hy hm => by
                      rcases Nat.lt_or_ge y x with h | h
                      · exact hno y h hm
                      · obtain rfl : y = x := by omega
                        exact hf hm
                    cases hfr : freeB n bc r c x
                    · have HE := Lib.hid (HN.out fun hm => by
                        have := freeB_iff.2 (mem_crops.1 hm).2
                        rw [hfr] at this; cases this)
                      rw [hfr] at K52
                      have K52 := Lib.hid K52
                      obtain ⟨u, hu⟩ : ∃ u, u = gAt bc r c := ⟨_, rfl⟩
                      rw [← hu] at c2 hd0
                      clear hk hg h0 hno hfr HN HAT f2 hu
                      go_wp2_with fail
                      refine K52.out.mono ?_
                      rintro e w' ⟨rfl, rfl⟩
                      go_wp2
                      go_roundw
                      case rel => exact ⟨x + 1, by omega, by go_num, HK.out, .inl ⟨HGr.out, HH0.out, HE.out⟩⟩
                      case measure => simp [intOf]; omega
                    · have hput : IsBed n (gset bc r c (x : Nat)) := HBc.out.put hrn hcn (by omega) (by omega) (freeB_iff.1 hfr)
                      have G2 := Lib.hid (hg.set_ HBc.out.shape hrn hcn (x : Int))
                      have KK2 := Lib.hid (GridM.turned hk hrn c (.int .i64 (x : Int)))
                      have K51 := Lib.hid (f51_any gO gr cr n cO hn7 hcO _ hput _ G2.out)
                      have HPUT := Lib.hid hput
                      have HGV : Hid (gAt (gset bc r c (x : Nat)) r c = (x : Int)) := Lib.hid (by rw [gAt_gset HBc.out.shape hrn hcn, if_pos ⟨rfl, rfl⟩])
                      rw [hfr] at K52
                      have K52 := Lib.hid K52
                      have HHF := Lib.hid hfr
                      obtain ⟨u, hu⟩ : ∃ u, u = gAt bc r c := ⟨_, rfl⟩
                      rw [← hu] at c2 hd0
                      clear hk hg h0 hno hfr hput hu
                      go_wp2_with fail
                      refine K52.out.mono ?_
                      rintro e w' ⟨rfl, rfl⟩
                      go_wp2_with fail
                      refine K51.out.mono ?_
                      rintro e w4 ⟨rfl, hk4, hg4⟩
                      have c3 := hg4.hdr r hrn
                      have c4 := hg4.val r c hrn hcn
                      have f4 := hg4.frozen hrn c
                      have G4 := Lib.hid hg4
                      have K4 := Lib.hid (KK2.out.trans hk4)
                      cases hcan : canB n (gset bc r c (x : Nat))
                      · have HE := Lib.hid (HN.out fun _ => hcan)
                        have G5 : Hid (GridM (w4.setCell ⟨gr r, c, none⟩ (.int .i64 (-1))) gO gr cr n bc) := Lib.hid (by
                          have h := hg4.set_ HPUT.out.shape hrn hcn (-1)
                          rw [HBACK.out] at h
                          exact h)
                        have K5 := Lib.hid (GridM.turned K4.out hrn c (.int .i64 (-1)))
                        clear hk4 hg4 hcan HN HAT
                        go_wp2
                        go_roundw
                        case rel => exact ⟨x + 1, by omega, by go_num, K5.out, .inl ⟨G5.out, HH0.out, HE.out⟩⟩
                        case measure => simp [intOf]; omega
                      · have HE := Lib.hid (HAT.out HHF.out hcan)
                        clear hk4 hg4 hcan HN HAT
                        go_wp2
                        go_roundw
                        case rel => exact ⟨x + 1, by omega, by go_num, K4.out, .inr ⟨by rw [HE.out]; exact G4.out, by rw [HE.out, HGV.out]; omega⟩⟩
                        case measure => simp [intOf]; omega
                  · have c1 := hg.hdr r hrn
                    have c2 := hg.val r c hrn hcn
                    have hd0 : decide (gAt (fillStep n bc r c) r c < 0) = false := decide_eq_false (by omega)
                    have HN : Hid (GridM wr gO gr cr n (fillRow n br r (c + 1))) := Lib.hid (by rw [HSU2.out]; exact hg)
                    generalize gAt (fillStep n bc r c) r c = u at *
                    clear hk hg h0
                    go_wp2
                    go_roundw
                    case rel => exact ⟨c + 1, by omega, by go_num, HK.out, HN.out⟩
                    case measure => simp [intOf]; omega
                · obtain rfl : x = n := by omega
                  have HN : Hid (GridM wr gO gr cr x (fillRow x br r (c + 1))) := Lib.hid (by
                    rw [HSU2.out]
                    rcases hst with ⟨hg, h0, hno⟩ | ⟨hg, h0⟩
                    · rw [fillStep_miss fun y hy => hno y (mem_crops.1 hy).1 hy]; exact hg
                    · exact hg)
                  clear hk hst
                  go_wp2
                  go_roundw
                  case rel => exact ⟨c + 1, by omega, by go_num, HK.out, HN.out⟩
                  case measure => simp [intOf]; omega
            · obtain rfl : c = n := by omega
              have HN : Hid (GridM wr gO gr cr c (fillTo c b (r + 1))) := Lib.hid (by rw [HSU.out]; exact hg)
              clear hk hg
              go_wp2
              go_roundw
              case rel => exact ⟨r + 1, by omega, by go_num, HK.out, HN.out⟩
              case measure => simp [intOf]; omega
        · obtain rfl : r = n := by omega
          have HN : Hid (Beds wr (some ⟨gO, 0, none⟩) r cO (fillTo r b r)) := Lib.hid (hg.beds (fillTo_bed HB.out (Nat.le_refl _)).shape hn7 hcO)
          have B3 := Lib.hid (hk.below HB2.out HB2.out.size HBR.out)
          clear hk hg
          go_wp2
          go_ret2
          exact ⟨_, _, _, by rw [HE2.out.1]; rfl, by rw [HE2.out.2]; exact HN.out, B3.out⟩
end Go.Proofs.YtiodednhadnekaaDoor
