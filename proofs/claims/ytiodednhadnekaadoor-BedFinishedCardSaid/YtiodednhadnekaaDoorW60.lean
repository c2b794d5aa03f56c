/- Walks: BedMates. -/
import Derived.Test.YtiodednhadnekaaDoorW59
namespace Go.Proofs.YtiodednhadnekaaDoor
open Go.RowKit Go.Deep
attribute [local go_sem ↓] Go.wp_at_zero Go.wp_at_succ

set_option maxRecDepth 100000 in
set_option maxHeartbeats 8000000 in
/-- dibberlaw01.BedMates -/
theorem f7_any (A : Option Addr) (n c : Nat) (a : List (List Int)) (B : Option Addr) (m d : Nat) (b : List (List Int)) (w : World) (ha : CameB w A n c a) (hb : CameB w B m d b) (ht : Tab w) :
    Calls Tryd.prog 7 #[.slice A n c, .slice B m d] w fun e w' => e = .returned (.bool true) ∧ Below w.heap.size w w' := by
  have K16 := Lib.hid (f16_any A c n (a.map List.length) w ha.1)
  have K16b := Lib.hid (f16_any B d m (b.map List.length) w hb.1)
  have K17 : Hid (∀ W, Below w.heap.size w W → Calls Tryd.prog 17 #[] W fun e w' => e = .returned (.bool true) ∧ Below W.heap.size W w') := Lib.hid fun W h => f17_any W (ht.below h)
  cases hf : fewB (a.map List.length)
  · rw [hf] at K16
    clear ha hb hf ht K16b
    go_enter Tryd.func7, Tryd.ntmps7
    go_wp2_with fail
    refine K16.out.mono ?_
    rintro e w1 ⟨rfl, rfl⟩
    go_wp2_with fail
    refine (K17.out _ (Below.refl _ _)).mono ?_
    rintro e w2 ⟨rfl, hb⟩
    have HB := Lib.hid hb
    clear hb
    go_wp2
    go_ret
    exact ⟨rfl, HB.out⟩
  rw [hf] at K16
  cases hf2 : fewB (b.map List.length)
  · rw [hf2] at K16b
    clear ha hb hf hf2 ht
    go_enter Tryd.func7, Tryd.ntmps7
    go_wp2_with fail
    refine K16.out.mono ?_
    rintro e w1 ⟨rfl, rfl⟩
    go_wp2_with fail
    refine K16b.out.mono ?_
    rintro e w1 ⟨rfl, rfl⟩
    go_wp2_with fail
    refine (K17.out _ (Below.refl _ _)).mono ?_
    rintro e w2 ⟨rfl, hb⟩
    have HB := Lib.hid hb
    clear hb
    go_wp2
    go_ret
    exact ⟨rfl, HB.out⟩
  rw [hf2] at K16b
  have HA := Lib.hid (ha.beds hf)
  have HB := Lib.hid (hb.beds hf2)
  clear ha hb hf hf2 ht
  obtain ⟨x1, hx1⟩ : ∃ z, z = matesB a b := ⟨_, rfl⟩
  obtain ⟨x2, hx2⟩ : ∃ z, z = matesE a b := ⟨_, rfl⟩
  obtain ⟨x3, hx3⟩ : ∃ z, z = mateE a := ⟨_, rfl⟩
  have K32 := Lib.hid (f32_any A B n m c d a b w HA.out HB.out)
  have K33 : Hid (∀ W, Below w.heap.size w W → Calls Tryd.prog 33 #[.slice A n c, .slice B m d] W fun e w' => e = .returned (.tuple #[.bool (matesB a b), .int .i64 (matesE a b)]) ∧ Below W.heap.size W w') := Lib.hid fun W h => f33_any A B n m c d a b W (HA.out.below h) (HB.out.below h)
  have K22 : Hid (∀ W, Below w.heap.size w W → Calls Tryd.prog 22 #[.slice A n c] W fun e w' => ∃ A' k c', e = .returned (.tuple #[.slice A' k c', .int .i64 (mateE a)]) ∧ Beds w' A' k c' (mateL a) ∧ Below W.heap.size W w') := Lib.hid fun W h => (f22_any A n c a W (HA.out.below h)).mono fun _ _ ⟨A', k, c', h1, h2, h3⟩ => ⟨A', k, c', h1, h2.beds, h3⟩
  have K34 : Hid (∀ W, Below w.heap.size w W → Calls Tryd.prog 34 #[.slice A n c] W fun e w' => ∃ A' k c', e = .returned (.tuple #[.slice A' k c', .int .i64 (mateE a)]) ∧ Beds w' A' k c' (mateL a) ∧ Below W.heap.size W w') := Lib.hid fun W h => f34_any A n c a W (HA.out.below h)
  rw [← hx1, ← hx2] at K32 K33
  rw [← hx3] at K22 K34
  have q1 : (x1 != x1) = false := by simp
  have q2 : (x2 != x2) = false := by simp
  have q3 : (x3 == x3) = true := by simp
  clear hx1 hx2 hx3
  go_enter Tryd.func7, Tryd.ntmps7
  go_wp2_with fail
  refine K16.out.mono ?_
  rintro e w1 ⟨rfl, rfl⟩
  go_wp2_with fail
  refine K16b.out.mono ?_
  rintro e w1 ⟨rfl, rfl⟩
  go_wp2_with fail
  refine K32.out.mono ?_
  rintro e w2 ⟨rfl, hb2⟩
  have B2 := Lib.hid hb2
  clear hb2
  go_wp2_with fail
  refine (K33.out w2 B2.out).mono ?_
  rintro e w3 ⟨rfl, hb3⟩
  have B3 := Lib.hid (below_step B2.out hb3)
  clear hb3 B2
  go_wp2_with fail
  refine (K22.out w3 B3.out).mono ?_
  rintro e w4 ⟨A4, k4, c4, rfl, h4, hb4⟩
  have H4 := Lib.hid h4
  have B4 := Lib.hid (below_step B3.out hb4)
  clear h4 hb4 B3
  go_wp2_with fail
  refine (K34.out w4 B4.out).mono ?_
  rintro e w5 ⟨A5, k5, c5, rfl, h5, hb5⟩
  have B5 := Lib.hid (below_step B4.out hb5)
  have K20 := Lib.hid (f20_true A4 A5 k4 c4 k5 c5 (mateL a) w5 (H4.out.below hb5) h5)
  clear h5 hb5 B4 H4
  go_wp2_with fail
  refine K20.out.mono ?_
  rintro e w6 ⟨rfl, hb6⟩
  have B6 := Lib.hid (below_step B5.out hb6)
  clear hb6
  go_wp2_with fail
  refine (K17.out w6 B6.out).mono ?_
  rintro e w7 ⟨rfl, hb7⟩
  have B7 := Lib.hid (below_step B6.out hb7)
  clear hb7
  go_wp2
  go_ret
  exact ⟨rfl, B7.out⟩
end Go.Proofs.YtiodednhadnekaaDoor
