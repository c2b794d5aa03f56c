/- Walks: BedChecks. -/
import Derived.Test.YtiodednhadnekaaDoorW31
namespace Go.Proofs.YtiodednhadnekaaDoor
open Go.RowKit Go.Deep
attribute [local go_sem ↓] Go.wp_at_zero Go.wp_at_succ

theorem few_false {b : List (List Int)} (h : fewB (b.map List.length) = true) : b.length ≤ 20 ∧ ∀ j, (b.getD j []).length ≤ 20 := ⟨by have := (fewB_facts h).1; simpa using this, few_rows h⟩
set_option maxRecDepth 100000 in
set_option maxHeartbeats 8000000 in
/-- dibberlaw01.BedChecks -/
theorem f5_any (A : Option Addr) (n c : Nat) (b : List (List Int)) (w : World) (hs : CameB w A n c b) (ht : Tab w) :
    Calls Tryd.prog 5 #[.slice A n c] w fun e w' => e = .returned (.bool true) ∧ Below w.heap.size w w' := by
  have K16 := Lib.hid (f16_any A c n (b.map List.length) w hs.1)
  have HT := Lib.hid ht
  cases hf : fewB (b.map List.length)
  · rw [hf] at K16
    have K17 := Lib.hid (f17_any w ht)
    clear hs hf ht
    go_enter Tryd.func5, Tryd.ntmps5
    go_wp2_with fail
    refine K16.out.mono ?_
    rintro e w1 ⟨rfl, rfl⟩
    go_wp2_with fail
    refine K17.out.mono ?_
    rintro e w2 ⟨rfl, hb⟩
    have HB := Lib.hid hb
    clear hb
    go_wp2
    go_ret
    exact ⟨rfl, HB.out⟩
  · rw [hf] at K16
    have hB := hs.beds hf
    obtain ⟨hl20, hr20⟩ := few_false hf
    have hbl := hB.len
    have HB := Lib.hid hB
    have K24 := Lib.hid (f24_any A n c b w hB (fun j => by have := hr20 j; omega) (by omega))
    clear hs hf ht hB hr20
    go_enter Tryd.func5, Tryd.ntmps5
    go_wp2_with fail
    refine K16.out.mono ?_
    rintro e w1 ⟨rfl, rfl⟩
    go_wp2_with fail
    refine K24.out.mono ?_
    rintro e w2 ⟨A2, c2, rfl, hN, hb2⟩
    have O2 := Lib.hid hN.beds
    have B2 := Lib.hid hb2
    clear hN hb2 K24 K16
    go_wp2_with fail
    refine (f25_any A2 n c2 b w2 O2.out).mono ?_
    rintro e w3 ⟨rfl, hb3⟩
    have O3 := Lib.hid (O2.out.below hb3)
    have B3 := Lib.hid (below_step B2.out hb3)
    clear hb3 O2 B2
    go_wp2_with fail
    refine (f26_any A n c b w3 (HB.out.below B3.out)).mono ?_
    rintro e w4 ⟨rfl, rfl⟩
    have K20 := f20_any A2 A n c2 n c b b w3 O3.out (HB.out.below B3.out)
    have K17 : ∀ k, Calls Tryd.prog 17 #[] (w3.drewN k) fun e w' => e = .returned (.bool true) ∧ Below w3.heap.size w3 w' := fun k => (f17_any (w3.drewN k) ((HT.out.below B3.out).drewN k)).mono fun e w' ⟨h1, h2⟩ => ⟨h1, (below_drewN (Below.refl w3.heap.size w3) k).trans h2⟩
    rw [show decide (b = b) = true from decide_eq_true rfl] at K20
    have K20 := Lib.hid K20
    have K17 := Lib.hid K17
    generalize chR b = x1
    generalize chC b = x2
    generalize chE b = x3
    have h1 : (x1 == x1) = true := by simp
    have h2 : (x2 == x2) = true := by simp
    have h3 : (x3 == x3) = true := by simp
    clear HB
    go_wp2_with fail
    refine K20.out.mono ?_
    rintro e w5 ⟨rfl, k, rfl⟩
    go_wp2_with fail
    refine (K17.out k).mono ?_
    rintro e w6 ⟨rfl, hb6⟩
    have B6 := Lib.hid (below_step B3.out hb6)
    clear hb6
    go_wp2
    go_ret
    exact ⟨rfl, B6.out⟩
end Go.Proofs.YtiodednhadnekaaDoor
