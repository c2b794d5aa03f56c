/- Walks: BedTransversals. -/
import Derived.Test.YtiodednhadnekaaDoorW34
namespace Go.Proofs.YtiodednhadnekaaDoor
open Go.RowKit Go.Deep
attribute [local go_sem ↓] Go.wp_at_zero Go.wp_at_succ

theorem firstL_tv (T : List (List Nat)) : firstL [] T = (T.take 1).map zs := rfl
set_option maxHeartbeats 4000000 in
/-- dibberref01.Transversal -/
theorem f28_any (A : Option Addr) (n c : Nat) (b : List (List Int)) (w : World) (hs : Beds w A n c b) :
    Calls Tryd.prog 28 #[.slice A n c] w fun e w' => ∃ A' c', e = .returned (.tuple #[.slice A' (tvL b).length c', .int .i64 (tvE b)]) ∧ Ints w' A' (tvL b).length (tvL b) ∧ Below w.heap.size w w' := by
  have K21 := Lib.hid (f21_any A n c b w hs)
  cases hf : fullB b
  · rw [hf] at K21
    have HE : Hid (tvL b = [] ∧ tvE b = 2) := by unfold tvL tvE; rw [hf]; exact ⟨rfl, rfl⟩
    clear hs hf
    go_enter Tryd.func28, Tryd.ntmps28
    go_wp2_with fail
    refine K21.out.mono ?_
    rintro e w1 ⟨rfl, rfl⟩
    go_wp2
    go_ret2
    exact ⟨none, 0, by rw [HE.out.1, HE.out.2]; rfl, by rw [HE.out.1]; exact Ints.nil _ _, Below.refl _ _⟩
  · rw [hf] at K21
    obtain ⟨hn1, hn7, hfull⟩ := fullB_iff.1 hf
    have hbl := hs.len
    rw [hbl] at hn1 hn7 hfull
    have HE : Hid (tvL b = zs ((trans b n).headD []) ∧ tvE b = if trans b n = [] then 10 else 0) := by unfold tvL tvE; rw [hf, hbl]; exact ⟨rfl, rfl⟩
    have K75 := f75_any n b w A c hfull hs hn7 n [] (by simp) (fun i hi => by simp at hi) [] none none 0 0 0 w (Below.refl _ _) (Ints.nil _ _) (fun _ => ⟨rfl, rfl⟩) (Beds.nil w)
    have hT : trF b n n [] = trans b n := rfl
    rw [hT, firstL_tv] at K75
    have HMEM : Hid (∀ l ∈ trans b n, l.length = n) := fun l hl => (trans_mem l hl).1
    generalize trans b n = T at *
    generalize (T.length : Int) = many at K75
    have K75 := Lib.hid K75
    cases T with
    | nil =>
      have HE2 : Hid (tvL b = [] ∧ tvE b = 10) := ⟨HE.out.1, HE.out.2⟩
      clear hs hf hfull HE hT
      go_enter Tryd.func28, Tryd.ntmps28
      go_wp2_with fail
      refine K21.out.mono ?_
      rintro e w1 ⟨rfl, rfl⟩
      go_wp2_with fail
      refine K75.out.mono ?_
      rintro e w2 ⟨F, m, d, rfl, hF, hb⟩
      have hm : m = 0 := hF.1.symm
      subst hm
      have HB := Lib.hid hb
      clear hF hb
      go_wp2
      go_ret2
      exact ⟨none, 0, by rw [HE2.out.1, HE2.out.2]; rfl, by rw [HE2.out.1]; exact Ints.nil _ _, HB.out⟩
    | cons t T =>
      have HE2 : Hid (tvL b = zs t ∧ tvE b = 0) := ⟨HE.out.1, HE.out.2⟩
      have htl : t.length = n := HMEM.out t (List.mem_cons_self ..)
      have hzl : (zs t).length = n := by rw [zs_len]; exact htl
      clear hs hf hfull HE hT
      go_enter Tryd.func28, Tryd.ntmps28
      go_wp2_with fail
      refine K21.out.mono ?_
      rintro e w1 ⟨rfl, rfl⟩
      go_wp2_with fail
      refine K75.out.mono ?_
      rintro e w2 ⟨F, m, d, rfl, hF, hb⟩
      have hF : Beds w2 F m d [zs t] := hF
      have hm : m = 1 := hF.1.symm
      subst hm
      obtain ⟨g, o, rfl, B2, d2, hc2, _, _, hi2⟩ := hF.at_ (show 0 < 1 by omega)
      have e2 : ([zs t] : List (List Int)).getD 0 [] = zs t := rfl
      rw [e2] at hc2 hi2
      rw [Nat.add_zero] at hc2
      have HB := Lib.hid hb
      have HI := Lib.hid hi2
      clear hF hb hi2
      go_wp2
      go_ret2
      exact ⟨B2, d2, by rw [HE2.out.1, HE2.out.2, hzl]; rfl, by rw [HE2.out.1]; exact HI.out, HB.out⟩
set_option maxHeartbeats 4000000 in
/-- dibberref01.Transversals -/
theorem f31_any (A : Option Addr) (n c : Nat) (b : List (List Int)) (w : World) (hs : Beds w A n c b) :
    Calls Tryd.prog 31 #[.slice A n c] w fun e w' => e = .returned (.tuple #[.int .i64 (trN b), .int .i64 (trE b)]) ∧ Below w.heap.size w w' := by
  have K21 := Lib.hid (f21_any A n c b w hs)
  cases hf : fullB b
  · rw [hf] at K21
    have HE : Hid (trN b = 0 ∧ trE b = 2) := by unfold trN trE; rw [hf]; exact ⟨rfl, rfl⟩
    clear hs hf
    go_enter Tryd.func31, Tryd.ntmps31
    go_wp2_with fail
    refine K21.out.mono ?_
    rintro e w1 ⟨rfl, rfl⟩
    go_wp2
    go_ret2
    exact ⟨by rw [HE.out.1, HE.out.2]; rfl, Below.refl _ _⟩
  · rw [hf] at K21
    obtain ⟨hn1, hn7, hfull⟩ := fullB_iff.1 hf
    have hbl := hs.len
    rw [hbl] at hn1 hn7 hfull
    have HE : Hid (trN b = ((trans b n).length : Int) ∧ trE b = 0) := by unfold trN trE; rw [hf, hbl]; exact ⟨rfl, rfl⟩
    have K75 := f75_any n b w A c hfull hs hn7 n [] (by simp) (fun i hi => by simp at hi) [] none none 0 0 0 w (Below.refl _ _) (Ints.nil _ _) (fun _ => ⟨rfl, rfl⟩) (Beds.nil w)
    have hT : trF b n n [] = trans b n := rfl
    rw [hT] at K75
    generalize trans b n = T at *
    generalize (T.length : Int) = many at *
    have K75 := Lib.hid K75
    clear hs hf hfull hT
    go_enter Tryd.func31, Tryd.ntmps31
    go_wp2_with fail
    refine K21.out.mono ?_
    rintro e w1 ⟨rfl, rfl⟩
    go_wp2_with fail
    refine K75.out.mono ?_
    rintro e w2 ⟨F, m, d, rfl, hF, hb⟩
    have HB := Lib.hid hb
    clear hF hb
    go_wp2
    go_ret2
    exact ⟨by rw [HE.out.1, HE.out.2]; rfl, HB.out⟩
set_option maxRecDepth 100000 in
set_option maxHeartbeats 8000000 in
/-- dibberlaw01.BedTransversals -/
theorem f6_any (A : Option Addr) (n c : Nat) (b : List (List Int)) (w : World) (hs : CameB w A n c b) (ht : Tab w) :
    Calls Tryd.prog 6 #[.slice A n c] w fun e w' => e = .returned (.bool true) ∧ Below w.heap.size w w' := by
  have K16 := Lib.hid (f16_any A c n (b.map List.length) w hs.1)
  have HT := Lib.hid ht
  cases hf : fewB (b.map List.length)
  · rw [hf] at K16
    have K17 := Lib.hid (f17_any w ht)
    clear hs hf ht
    go_enter Tryd.func6, Tryd.ntmps6
    go_wp2_with fail
    refine K16.out.mono ?_
    rintro e w1 ⟨rfl, rfl⟩
    go_wp2_with fail
    refine K17.out.mono ?_
    rintro e w2 ⟨rfl, hb⟩
    have HB := Lib.hid hb
    clear hb
    go_wp2
    go_ret
    exact ⟨rfl, HB.out⟩
  · rw [hf] at K16
    have hB := hs.beds hf
    have HB := Lib.hid hB
    have K27 := Lib.hid (f27_any A n c b w hB)
    have h3 : (tvE b == tvE b) = true := by simp
    have h3n : (tvE b != tvE b) = false := by simp
    have h4 : (trN b == trN b) = true := by simp
    have h5 : (trE b == trE b) = true := by simp
    clear hs hf ht hB
    go_enter Tryd.func6, Tryd.ntmps6
    go_wp2_with fail
    refine K16.out.mono ?_
    rintro e w1 ⟨rfl, rfl⟩
    go_wp2_with fail
    refine K27.out.mono ?_
    rintro e w2 ⟨A2, c2, rfl, hi2, hb2⟩
    have O2 := Lib.hid hi2
    have B2 := Lib.hid hb2
    clear hi2 hb2 K27 K16
    go_wp2_with fail
    refine (f28_any A n c b w2 (HB.out.below B2.out)).mono ?_
    rintro e w3 ⟨A3, c3, rfl, hi3, hb3⟩
    have K29 := f29_any A2 A3 (tvL b).length c2 (tvL b).length c3 (tvL b) (tvL b) w3 (O2.out.below hb3) hi3
    rw [show decide (tvL b = tvL b) = true from decide_eq_true rfl] at K29
    have K29 := Lib.hid K29
    have B3 := Lib.hid (below_step B2.out hb3)
    clear hi3 hb3 O2 B2
    generalize (tvL b).length = len at *
    generalize tvE b = x3 at *
    go_wp2_with fail
    refine K29.out.mono ?_
    rintro e w4 ⟨rfl, k, rfl⟩
    obtain ⟨w5, hw5⟩ : ∃ z, z = w3.drewN k := ⟨_, rfl⟩
    rw [← hw5]
    have B5 : Hid (Below w.heap.size w w5) := Lib.hid (by rw [hw5]; exact below_drewN B3.out k)
    clear hw5 B3 K29
    go_wp2_with fail
    refine (f30_any A n c b w5 (HB.out.below B5.out)).mono ?_
    rintro e w6 ⟨rfl, hb6⟩
    have B6 := Lib.hid (below_step B5.out hb6)
    clear hb6 B5
    go_wp2_with fail
    refine (f31_any A n c b w6 (HB.out.below B6.out)).mono ?_
    rintro e w7 ⟨rfl, hb7⟩
    have B7 := Lib.hid (below_step B6.out hb7)
    clear hb7 B6
    generalize trN b = x4 at *
    generalize trE b = x5 at *
    clear HB
    go_wp2_with fail
    refine (f17_any w7 (HT.out.below B7.out)).mono ?_
    rintro e w8 ⟨rfl, hb8⟩
    have B8 := Lib.hid (below_step B7.out hb8)
    clear hb8
    go_wp2
    go_ret
    exact ⟨rfl, B8.out⟩
end Go.Proofs.YtiodednhadnekaaDoor
