/- Walks: BedParted. -/
import Derived.Test.YtiodednhadnekaaDoorW48
namespace Go.Proofs.YtiodednhadnekaaDoor
open Go.RowKit Go.Deep
attribute [local go_sem ↓] Go.wp_at_zero Go.wp_at_succ

theorem mate_parts {b : List (List Int)} {n : Nat} (hok : mateOk b) (hn : 0 < n) (hl : b.length = n) : mateE b = if mtAny n (trans b n) n 0 (fun _ _ => -1) = true then 0 else 10 := by
  unfold mateE mateL
  rw [if_pos hok, if_pos hok, hl]
  have h := mtF_any hn (trans b n) n 0 (fun _ _ => -1) []
  cases hm : mtAny n (trans b n) n 0 (fun _ _ => -1)
  · rw [if_pos (h.2 ⟨rfl, hm⟩)]; rfl
  · rw [if_neg fun e => by have := (h.1 e).2; rw [hm] at this; cases this]; rfl
set_option maxRecDepth 100000 in
set_option maxHeartbeats 8000000 in
/-- dibberlaw01.BedParted -/
theorem f4_any (A : Option Addr) (n c : Nat) (b : List (List Int)) (w : World) (hs : CameB w A n c b) (ht : Tab w) :
    Calls Tryd.prog 4 #[.slice A n c] w fun e w' => e = .returned (.bool true) ∧ Below w.heap.size w w' := by
  have K16 := Lib.hid (f16_any A c n (b.map List.length) w hs.1)
  have HT := Lib.hid ht
  have K17 := Lib.hid (f17_any w ht)
  cases hf : fewB (b.map List.length)
  · rw [hf] at K16
    clear hs hf ht
    go_enter Tryd.func4, Tryd.ntmps4
    go_wp2_with fail
    refine K16.out.mono ?_
    rintro e w1 ⟨rfl, rfl⟩
    go_wp2_with fail
    refine K17.out.mono ?_
    rintro e w2 ⟨rfl, hb⟩
    have HB := Lib.hid hb
    clear hb
    go_wp2
    go_ret
    exact ⟨rfl, HB.out⟩
  rw [hf] at K16
  have hB := hs.beds hf
  have HB := Lib.hid hB
  have hbl := hB.len
  have hsm := hB.small
  have K21 := Lib.hid (f21_any A n c b w hB)
  cases hfull : fullB b
  · rw [hfull] at K21
    clear hs hf ht hB hfull
    go_enter Tryd.func4, Tryd.ntmps4
    go_wp2_with fail
    refine K16.out.mono ?_
    rintro e w1 ⟨rfl, rfl⟩
    go_wp2_with fail
    refine K21.out.mono ?_
    rintro e w1 ⟨rfl, rfl⟩
    go_wp2_with fail
    refine K17.out.mono ?_
    rintro e w2 ⟨rfl, hb⟩
    have HB := Lib.hid hb
    clear hb
    go_wp2
    go_ret
    exact ⟨rfl, HB.out⟩
  rw [hfull] at K21
  by_cases h5 : 5 < n
  · clear hs hf ht hB hfull
    go_enter Tryd.func4, Tryd.ntmps4
    go_wp2_with fail
    refine K16.out.mono ?_
    rintro e w1 ⟨rfl, rfl⟩
    go_wp2_with fail
    refine K21.out.mono ?_
    rintro e w1 ⟨rfl, rfl⟩
    go_wp2_with fail
    refine K17.out.mono ?_
    rintro e w2 ⟨rfl, hb⟩
    have HB := Lib.hid hb
    clear hb
    go_wp2
    go_ret
    exact ⟨rfl, HB.out⟩
  obtain ⟨hn1, hn7, hF⟩ := fullB_iff.1 hfull
  rw [hbl] at hn1 hn7 hF
  have HF := Lib.hid hF
  have HM := Lib.hid (mate_parts (b := b) (n := n) ⟨hfull, by omega⟩ hn1 hbl)
  have hmk := make_bools n (by omega)
  have U0 : Hid (UsI w w.heap.size n (.slice none 0 0) []) := ⟨World.ownsRow_nil w _ 31 1, fun j hj => absurd hj (by simp), fun i j _ hj => absurd hj (by simp)⟩
  clear hs hf ht hB hfull hF K17
  go_enter Tryd.func4, Tryd.ntmps4
  go_wp2_with fail
  refine K16.out.mono ?_
  rintro e w1 ⟨rfl, rfl⟩
  go_wp2_with fail
  refine K21.out.mono ?_
  rintro e w1 ⟨rfl, rfl⟩
  go_wp2
  go_loopw [4, 3] (fun ii u wr => ∃ (r : Nat) (v : Value) (G : List Nat), r ≤ n ∧ ii = .int .i64 (r : Int) ∧ v = u ∧ G.length = r ∧ UsI wr w.heap.size n v G ∧ Below w.heap.size w wr) (fun ii _ _ => n - (intOf ii).toNat)
  case atStart => exact ⟨0, _, [], by omega, rfl, rfl, rfl, U0.out, Below.refl _ _⟩
  case round => as_aux_lemma =>
    obtain ⟨r, v, G, hr, rfl, rfl, hG, hu, hbel⟩ := hrel
    have HU := Lib.hid hu
    have HBL := Lib.hid hbel
    have HG := Lib.hid hG
    by_cases hrn : r < n
    · have r0 : (0 : Int) ≤ (r : Int) := by omega
      have rn : (r : Int) < (n : Int) := by omega
      obtain ⟨wa, hwa⟩ : ∃ z, z = (wr.alloc (.cells (List.replicate n (Value.bool false)).toArray 4)).alloc (.cells #[.slice (some ⟨wr.heap.size, 0, none⟩) n n] 31) := ⟨_, rfl⟩
      have BA : Hid (Below wr.heap.size wr wa) := Lib.hid (by rw [hwa]; exact below_alloc2 wr _ _)
      have s1 : (wr.alloc (.cells (List.replicate n (Value.bool false)).toArray 4)).heap.size = wr.heap.size + 1 := by simp
      have hca : wa.cell? ⟨wr.heap.size + 1, 0, none⟩ = some (.slice (some ⟨wr.heap.size, 0, none⟩) n n) := by
        have h := heap_alloc_new (wr.alloc (.cells (List.replicate n (Value.bool false)).toArray 4)) (.cells #[.slice (some ⟨wr.heap.size, 0, none⟩) n n] 31)
        rw [← hwa, s1] at h
        rw [cell_of_row _ _ 0 _ _ _ h]; rfl
      have HGA : Hid (wa.heap[wr.heap.size]? = some (.cells (List.replicate n (Value.bool false)).toArray 4 (0, 0))) := Lib.hid (by
        rw [hwa]
        exact (Below.heap_alloc _ _ wr.heap.size (by omega)).trans (heap_alloc_new wr _))
      have HSZ : Hid (w.heap.size ≤ wr.heap.size) := hbel.size
      have HROW : Hid (RowU wa w.heap.size v (mkU n G)) := Lib.hid (World.ownsRow.kept hu.1 (grown_below BA.out none) (by cases hv : v.ownBlock <;> simp))
      have HMK : Hid (mkU n G ++ [.slice (some ⟨wr.heap.size, 0, none⟩) n n] = mkU n (G ++ [wr.heap.size])) := Lib.hid (by simp [mkU])
      have hml : (mkU n G).length ≤ 1000000 := by simp [mkU]; omega
      simp only [List.toArray_replicate] at hwa
      clear hu hbel hG s1
      go_wp2_with (at_builtin; rw [← hwa]; refine wpList_pushU rfl (.tmp 27) (.tmp 31) rfl w.heap.size v (mkU n G) rfl HROW.out (wr.heap.size + 1) 1 (some ⟨wr.heap.size, 0, none⟩) n n rfl hca hml (Nat.le_trans HSZ.out BA.out.size) ?hr)
      case hr =>
        intro g' c' w3 hr3 hg3
        rw [← hwa] at hg3
        rw [HMK.out] at hr3
        have HU3 := Lib.hid (HU.out.push BA.out HGA.out (Nat.le_refl _) HSZ.out hg3 hr3)
        have HB3 : Hid (Below w.heap.size w w3) := Lib.hid ((HBL.out.trans (BA.out.mono HSZ.out)).grown hg3 (Nat.le_trans HSZ.out BA.out.size) fun k hk => (World.ownsRow.lt HROW.out k hk).1)
        have HG3 : Hid ((G ++ [wr.heap.size]).length = r + 1) := Lib.hid (by rw [List.length_append, HG.out]; rfl)
        generalize (mkU n G).length + 1 = len3 at *
        clear hr3 hg3
        go_wp2
        go_roundw
        case rel => exact ⟨r + 1, _, G ++ [wr.heap.size], by omega, by go_num, rfl, HG3.out, HU3.out, HB3.out⟩
        case measure => simp [intOf]; omega
    · obtain rfl : r = n := by omega
      obtain ⟨gU, cU, rfl, hused⟩ := hu.used hG hn1
      have HUS := Lib.hid hused
      have HLOW : Hid (∀ q, q < r → w.heap.size ≤ G.getD q 0) := Lib.hid fun q hq => (hu.2.1 q (by omega)).2
      have K22 := Lib.hid (f22_any A r c b wr (HB.out.below hbel))
      clear hu hbel hG hused
      go_wp2_with fail
      refine K22.out.mono ?_
      rintro e w4 ⟨A4, k4, c4, rfl, _, hb4⟩
      have HB4 := Lib.hid (HBL.out.trans (hb4.mono HBL.out.size))
      have K23 : Hid (Calls Tryd.prog 23 #[.slice A r c, .slice (some ⟨gU, 0, none⟩) r cU, .int .i64 0] w4 fun e w' => e = .returned (.bool (mtAny r (trans b r) r 0 (fun _ _ => -1))) ∧ Kept (fun _ i => OwnU r (fun q => G.getD q 0) i) w4 w' ∧ UsedM w' gU (fun q => G.getD q 0) r (usedO (fun _ _ => -1))) := Lib.hid (f23_any r b w A c gU cU (fun q => G.getD q 0) HF.out HB.out hn1 (by omega) HLOW.out r 0 (by omega) (fun _ _ => -1) w4 ⟨fun _ _ => .inl rfl, fun c _ => ⟨fun _ => Nat.zero_le _, fun _ => by omega⟩⟩ (HUS.out.below hb4) HB4.out)
      clear hb4 K22
      generalize mtAny r (trans b r) r 0 (fun _ _ => -1) = P at *
      have HKB : Hid (∀ w', Kept (fun _ i => OwnU r (fun q => G.getD q 0) i) w4 w' → Below w.heap.size w w') := Lib.hid fun w' k => k.below HB4.out HB4.out.size (fun i ⟨q, hq, e⟩ => by rw [e]; exact HLOW.out q hq)
      cases P
      · have HE : Hid (mateE b = 10) := HM.out
        rw [HE.out]
        go_wp2_with fail
        refine K23.out.mono ?_
        rintro e w5 ⟨rfl, hk5, _⟩
        have HB5 := Lib.hid (HKB.out w5 hk5)
        clear hk5
        go_wp2_with fail
        refine (f17_any w5 (HT.out.below HB5.out)).mono ?_
        rintro e w6 ⟨rfl, hb6⟩
        have HB6 := Lib.hid (HB5.out.trans (hb6.mono HB5.out.size))
        clear hb6
        go_wp2
        go_ret
        exact ⟨rfl, HB6.out⟩
      · have HE : Hid (mateE b = 0) := HM.out
        rw [HE.out]
        go_wp2_with fail
        refine K23.out.mono ?_
        rintro e w5 ⟨rfl, hk5, _⟩
        have HB5 := Lib.hid (HKB.out w5 hk5)
        clear hk5
        go_wp2_with fail
        refine (f17_any w5 (HT.out.below HB5.out)).mono ?_
        rintro e w6 ⟨rfl, hb6⟩
        have HB6 := Lib.hid (HB5.out.trans (hb6.mono HB5.out.size))
        clear hb6
        go_wp2
        go_ret
        exact ⟨rfl, HB6.out⟩
end Go.Proofs.YtiodednhadnekaaDoor
