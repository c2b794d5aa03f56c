/- Walks: BedCounts. -/
import Derived.Test.YtiodednhadnekaaDoorW42
namespace Go.Proofs.YtiodednhadnekaaDoor
open Go.RowKit Go.Deep
attribute [local go_sem ↓] Go.wp_at_zero Go.wp_at_succ

/-- dibberref01.count -/
theorem f82_any (gO : Nat) (gr cr : Nat → Nat) (n cO : Nat) (hn0 : 0 < n) (hn : n ≤ 5) (hcO : n ≤ cO) (b : List (List Int)) (hb : IsBed n b) : CntG gO gr cr n cO b := by
  have key : ∀ k b, empt n b < k → IsBed n b → CntG gO gr cr n cO b := by
    intro k
    induction k with
    | zero => intro b h; omega
    | succ k ih =>
      intro b hk hb
      refine f82_step gO gr cr n cO hn0 hn hcO b hb fun r c x hr hc h0 hx => ih _ ?_ ?_
      · have := empt_put hb.shape hr hc h0 (x := (x : Int)) (by omega)
        omega
      · obtain ⟨h1, h2⟩ := mem_crops.1 hx
        exact hb.put hr hc (by omega) (by omega) h2
  exact key _ b (Nat.lt_succ_self _) hb
set_option maxRecDepth 100000 in
set_option maxHeartbeats 4000000 in
/-- dibberref01.Count -/
theorem f36_any (A : Option Addr) (n c : Nat) (b : List (List Int)) (w : World) (hs : Beds w A n c b) (hrow : ∀ j, (b.getD j []).length ≤ 1000) (hn1000 : n ≤ 1000) :
    Calls Tryd.prog 36 #[.slice A n c] w fun e w' => e = .returned (.tuple #[.int .i64 (cntN b : Int), .int .i64 (cntE b)]) ∧ Below w.heap.size w w' := by
  have K37 := Lib.hid (f37_any A n c b w hs)
  have hbl := hs.len
  have hsm := hs.small
  cases hf : bedB b
  · rw [hf] at K37
    have hno : ¬ cntOk b := fun h => by rw [h.1] at hf; cases hf
    have HE : Hid (cntE b = 2 ∧ cntN b = 0) := by unfold cntE cntN; rw [if_neg hno, if_neg hno]; exact ⟨rfl, rfl⟩
    clear hs hf hno hrow
    go_enter Tryd.func36, Tryd.ntmps36
    go_wp2_with fail
    refine K37.out.mono ?_
    rintro e w1 ⟨rfl, rfl⟩
    go_wp2
    go_ret2
    exact ⟨by rw [HE.out.1, HE.out.2]; rfl, Below.refl _ _⟩
  rw [hf] at K37
  by_cases h5 : 5 < n
  · have hno : ¬ cntOk b := fun h => by have := h.2; omega
    have HE : Hid (cntE b = 2 ∧ cntN b = 0) := by unfold cntE cntN; rw [if_neg hno, if_neg hno]; exact ⟨rfl, rfl⟩
    clear hs hf hno hrow
    go_enter Tryd.func36, Tryd.ntmps36
    go_wp2_with fail
    refine K37.out.mono ?_
    rintro e w1 ⟨rfl, rfl⟩
    go_wp2
    go_ret2
    exact ⟨by rw [HE.out.1, HE.out.2]; rfl, Below.refl _ _⟩
  obtain ⟨hn1, hn7, hB⟩ := find_bed hf hbl
  have hok : cntOk b := ⟨hf, by omega⟩
  have HE : Hid (cntE b = 0 ∧ cntN b = cnt n b) := by unfold cntE cntN; rw [if_pos hok, if_pos hok, hbl]; exact ⟨rfl, rfl⟩
  have HB := Lib.hid hB
  have K24 := Lib.hid (f24_own A n c b w hs hrow hn1000)
  clear hs hf hok hB hrow
  go_enter Tryd.func36, Tryd.ntmps36
  go_wp2_with fail
  refine K37.out.mono ?_
  rintro e w1 ⟨rfl, rfl⟩
  go_wp2_with fail
  refine K24.out.mono ?_
  rintro e w2 ⟨v, rfl, hv, hb2⟩
  obtain ⟨gO, gr, cr, cO, rfl, hg, hcO, hbO, hbr⟩ := hv.grid HB.out.shape hn1 hn7
  have HB2 := Lib.hid hb2
  have HBR : Hid (∀ i, OwnG n gr i → w.heap.size ≤ i) := Lib.hid fun i ⟨r, hr, e⟩ => by rw [e]; exact hbr r hr
  have K82 : Hid (Calls Tryd.prog 82 #[.slice (some ⟨gO, 0, none⟩) n cO, .int .i64 0] w2 fun e w' => e = .returned (.int .i64 (cnt n b : Int)) ∧ Kept (fun _ i => OwnG n gr i) w2 w' ∧ GridM w' gO gr cr n b) := Lib.hid (f82_any gO gr cr n cO hn1 (by omega) hcO b HB.out w2 0 hg (by omega) (fun i hi => absurd hi (by omega)))
  clear hv hb2 hg hbO hbr K24 K37
  generalize cnt n b = N at *
  go_wp2_with fail
  refine K82.out.mono ?_
  rintro e w3 ⟨rfl, hk3, hg3⟩
  have B3 := Lib.hid (hk3.below HB2.out HB2.out.size HBR.out)
  clear hk3 hg3
  go_wp2
  go_ret2
  exact ⟨by rw [HE.out.1, HE.out.2]; rfl, B3.out⟩
set_option maxRecDepth 100000 in
set_option maxHeartbeats 8000000 in
/-- dibberlaw01.BedCounts -/
theorem f9_any (A : Option Addr) (n c : Nat) (b : List (List Int)) (w : World) (hs : CameB w A n c b) (ht : Tab w) :
    Calls Tryd.prog 9 #[.slice A n c] w fun e w' => e = .returned (.bool true) ∧ Below w.heap.size w w' := by
  have K16 := Lib.hid (f16_any A c n (b.map List.length) w hs.1)
  have HT := Lib.hid ht
  cases hf : fewB (b.map List.length)
  · rw [hf] at K16
    have K17 := Lib.hid (f17_any w ht)
    clear hs hf ht
    go_enter Tryd.func9, Tryd.ntmps9
    go_wp2_with fail
    refine K16.out.mono ?_
    rintro e w1 ⟨rfl, rfl⟩
    go_wp2_with fail
    refine K17.out.mono ?_
    rintro e w2 ⟨rfl, hb⟩
    have HB := Lib.hid hb
    clear hb
    go_wp2
    go_ret
    exact ⟨rfl, HB.out⟩
  · rw [hf] at K16
    have hB := hs.beds hf
    have HB := Lib.hid hB
    obtain ⟨hl20, hr20⟩ := few_false hf
    have hbl := hB.len
    have HR := Lib.hid hr20
    have K17 := Lib.hid (f17_any w ht)
    have K35 := Lib.hid (f35_any A n c b w hB ht)
    have HRC : Hid (∀ W, Beds W A n c b → Calls Tryd.prog 36 #[.slice A n c] W fun e w' => e = .returned (.tuple #[.int .i64 (cntN b : Int), .int .i64 (cntE b)]) ∧ Below W.heap.size W w') := Lib.hid fun W h => f36_any A n c b W h (fun j => by have := HR.out j; omega) (by omega)
    clear hs hf ht hB hr20
    generalize cntN b = N at *
    generalize cntE b = E at *
    have h3 : ((N : Int) == (N : Int)) = true := by simp
    have h4 : (E == E) = true := by simp
    go_enter Tryd.func9, Tryd.ntmps9
    go_wp2_with fail
    refine K16.out.mono ?_
    rintro e w1 ⟨rfl, rfl⟩
    go_wp2
    go_loop [4, 3] (fun i v => ∃ (r : Nat) (t : Bool), r ≤ n ∧ i = .int .i64 (r : Int) ∧ v = .bool t) (fun i _ => n - (intOf i).toNat)
    case atStart => exact ⟨0, _, by omega, rfl, rfl⟩
    case round => as_aux_lemma =>
      obtain ⟨r, t, hr, rfl, rfl⟩ := hrel
      by_cases hrn : r < n
      · obtain ⟨g, o, rfl, B, d, hc, _, _, hi⟩ := HB.out.at_ hrn
        have HI := Lib.hid hi
        have hml := HR.out r
        obtain ⟨m, hm⟩ : ∃ z, z = (b.getD r []).length := ⟨_, rfl⟩
        rw [← hm] at hc HI hml
        generalize b.getD r [] = l at *
        have r0 : (0 : Int) ≤ (r : Int) := by omega
        have rn : (r : Int) < (n : Int) := by omega
        clear hi hm
        go_wp2
        go_loop [5, 3] (fun i v => ∃ (k : Nat) (t : Bool), k ≤ m ∧ i = .int .i64 (k : Int) ∧ v = .bool t) (fun i _ => m - (intOf i).toNat)
        case atStart => exact ⟨0, _, by omega, rfl, rfl⟩
        case round => as_aux_lemma =>
          obtain ⟨k, t, hk, rfl, rfl⟩ := hrel
          by_cases hkm : k < m
          · obtain ⟨g2, o2, rfl, hc2⟩ := HI.out.at_ hkm
            generalize l.getD k 0 = u at *
            have k0 : (0 : Int) ≤ (k : Int) := by omega
            have kn : (k : Int) < (m : Int) := by omega
            cases t
            · go_wp2
              go_round
              case rel => exact ⟨k + 1, _, by omega, by go_num, rfl⟩
              case measure => simp [intOf]; omega
            · go_wp2
              go_round
              case rel => exact ⟨k + 1, _, by omega, by go_num, rfl⟩
              case measure => simp [intOf]; omega
          · obtain rfl : k = m := by omega
            go_wp2
            go_round
            case rel => exact ⟨r + 1, _, by omega, by go_num, rfl⟩
            case measure => simp [intOf]; omega
      · obtain rfl : r = n := by omega
        cases t
        · go_wp2_with fail
          refine K17.out.mono ?_
          rintro e w2 ⟨rfl, hb⟩
          have HB2 := Lib.hid hb
          clear hb
          go_wp2
          go_ret
          exact ⟨rfl, HB2.out⟩
        · go_wp2_with fail
          refine K35.out.mono ?_
          rintro e w2 ⟨rfl, hb2⟩
          have HB2 := Lib.hid hb2
          clear hb2
          go_wp2_with fail
          refine (HRC.out w2 (HB.out.below HB2.out)).mono ?_
          rintro e w3 ⟨rfl, hb3⟩
          have HB3 := Lib.hid (below_step HB2.out hb3)
          clear hb3
          go_wp2_with fail
          refine (f17_any w3 (HT.out.below HB3.out)).mono ?_
          rintro e w4 ⟨rfl, hb4⟩
          have HB4 := Lib.hid (below_step HB3.out hb4)
          clear hb4
          go_wp2
          go_ret
          exact ⟨rfl, HB4.out⟩
end Go.Proofs.YtiodednhadnekaaDoor
