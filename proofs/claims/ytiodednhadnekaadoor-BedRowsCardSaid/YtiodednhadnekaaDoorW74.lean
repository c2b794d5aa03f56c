/- Walks: BedRows. -/
import Derived.Test.YtiodednhadnekaaDoorW73
namespace Go.Proofs.YtiodednhadnekaaDoor
open Go.RowKit Go.Deep
attribute [local go_sem ↓] Go.wp_at_zero Go.wp_at_succ

set_option maxRecDepth 100000 in
set_option maxHeartbeats 8000000 in
/-- dibberlaw01.BedRows -/
theorem f14_any (N : Int) (A : Option Addr) (n c : Nat) (b : List (List Int)) (w : World) (hs : CameB w A n c b) (ht : Tab w) :
    Calls Tryd.prog 14 #[.int .i64 N, .slice A n c] w fun e w' => e = .returned (.bool true) ∧ Below w.heap.size w w' := by
  have K16 := Lib.hid (f16_any A c n (b.map List.length) w hs.1)
  have HT := Lib.hid ht
  cases hf : fewB (b.map List.length)
  · rw [hf] at K16
    have K17 := Lib.hid (f17_any w ht)
    clear hs hf ht
    go_enter Tryd.func14, Tryd.ntmps14
    go_wp2_with fail
    refine K16.out.mono ?_
    rintro e w1 ⟨rfl, rfl⟩
    go_wp2_with fail
    refine K17.out.mono ?_
    rintro e w2 ⟨rfl, hb⟩
    have HB := Lib.hid hb
    clear hb
    go_wp2
    go_ret
    exact ⟨rfl, HB.out⟩
  · rw [hf] at K16
    have hB := hs.beds hf
    have HB := Lib.hid hB
    have K45 := Lib.hid (f45_any N A n c b w hB ht)
    have h3 : (rwE N b == rwE N b) = true := by simp
    have h3n : (rwE N b != rwE N b) = false := by simp
    have h4 : (roN N b == roN N b) = true := by simp
    have h5 : (roE N b == roE N b) = true := by simp
    clear hs hf ht hB
    go_enter Tryd.func14, Tryd.ntmps14
    go_wp2_with fail
    refine K16.out.mono ?_
    rintro e w1 ⟨rfl, rfl⟩
    go_wp2_with fail
    refine K45.out.mono ?_
    rintro e w2 ⟨A2, c2, rfl, hi2, hb2⟩
    have O2 := Lib.hid hi2
    have B2 := Lib.hid hb2
    clear hi2 hb2 K45 K16
    go_wp2_with fail
    refine (f46_any N A n c b w2 (HB.out.below B2.out)).mono ?_
    rintro e w3 ⟨A3, c3, rfl, hi3, hb3⟩
    have K29 := f29_any A2 A3 (rwL N b).length c2 (rwL N b).length c3 (rwL N b) (rwL N b) w3 (O2.out.below hb3) hi3
    rw [show decide (rwL N b = rwL N b) = true from decide_eq_true rfl] at K29
    have K29 := Lib.hid K29
    have B3 := Lib.hid (below_step B2.out hb3)
    clear hi3 hb3 O2 B2
    generalize (rwL N b).length = len at *
    generalize rwE N b = x3 at *
    go_wp2_with fail
    refine K29.out.mono ?_
    rintro e w4 ⟨rfl, k, rfl⟩
    obtain ⟨w5, hw5⟩ : ∃ z, z = w3.drewN k := ⟨_, rfl⟩
    rw [← hw5]
    have B5 : Hid (Below w.heap.size w w5) := Lib.hid (by rw [hw5]; exact below_drewN B3.out k)
    clear hw5 B3 K29
    go_wp2_with fail
    refine (f47_any N A n c b w5 (HB.out.below B5.out)).mono ?_
    rintro e w6 ⟨rfl, hb6⟩
    have B6 := Lib.hid (below_step B5.out hb6)
    clear hb6 B5
    go_wp2_with fail
    refine (f48_any N A n c b w6 (HB.out.below B6.out)).mono ?_
    rintro e w7 ⟨rfl, hb7⟩
    have B7 := Lib.hid (below_step B6.out hb7)
    clear hb7 B6
    generalize roN N b = x4 at *
    generalize roE N b = x5 at *
    clear HB
    go_wp2_with fail
    refine (f17_any w7 (HT.out.below B7.out)).mono ?_
    rintro e w8 ⟨rfl, hb8⟩
    have B8 := Lib.hid (below_step B7.out hb8)
    clear hb8
    go_wp2
    go_ret
    exact ⟨rfl, B8.out⟩
end Go.Proofs.YtiodednhadnekaaDoor
