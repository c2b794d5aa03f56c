/- Walks: BedPairs. -/
import Derived.Test.YtiodednhadnekaaDoorW62
import Derived.Test.YtiodednhadnekaaDoorW63
namespace Go.Proofs.YtiodednhadnekaaDoor
open Go.RowKit Go.Deep
attribute [local go_sem ↓] Go.wp_at_zero Go.wp_at_succ

set_option maxRecDepth 100000 in
set_option maxHeartbeats 8000000 in
/-- dibberlaw01.BedPairs -/
theorem f8_any (A : Option Addr) (n c : Nat) (a : List (List Int)) (B : Option Addr) (m d : Nat) (b : List (List Int)) (w : World) (ha : CameB w A n c a) (hb : CameB w B m d b) (ht : Tab w) :
    Calls Tryd.prog 8 #[.slice A n c, .slice B m d] w fun e w' => e = .returned (.bool true) ∧ Below w.heap.size w w' := by
  have K16 := Lib.hid (f16_any A c n (a.map List.length) w ha.1)
  have K16b := Lib.hid (f16_any B d m (b.map List.length) w hb.1)
  have K17 : Hid (∀ W, Below w.heap.size w W → Calls Tryd.prog 17 #[] W fun e w' => e = .returned (.bool true) ∧ Below W.heap.size W w') := Lib.hid fun W h => f17_any W (ht.below h)
  cases hf : fewB (a.map List.length)
  · rw [hf] at K16
    clear ha hb hf ht K16b
    go_enter Tryd.func8, Tryd.ntmps8
    go_wp2_with fail
    refine K16.out.mono ?_
    rintro e w1 ⟨rfl, rfl⟩
    go_wp2_with fail
    refine (K17.out _ (Below.refl _ _)).mono ?_
    rintro e w2 ⟨rfl, hb⟩
    have HB := Lib.hid hb
    clear hb
    go_wp2
    go_ret
    exact ⟨rfl, HB.out⟩
  rw [hf] at K16
  cases hf2 : fewB (b.map List.length)
  · rw [hf2] at K16b
    clear ha hb hf hf2 ht
    go_enter Tryd.func8, Tryd.ntmps8
    go_wp2_with fail
    refine K16.out.mono ?_
    rintro e w1 ⟨rfl, rfl⟩
    go_wp2_with fail
    refine K16b.out.mono ?_
    rintro e w1 ⟨rfl, rfl⟩
    go_wp2_with fail
    refine (K17.out _ (Below.refl _ _)).mono ?_
    rintro e w2 ⟨rfl, hb⟩
    have HB := Lib.hid hb
    clear hb
    go_wp2
    go_ret
    exact ⟨rfl, HB.out⟩
  rw [hf2] at K16b
  cases hmb : matesB a b
  · exact f8_no A n c a B m d b w ha hb ht hf hf2 hmb
  · rcases Nat.lt_or_ge 5 n with h | h
    · exact f8_high A n c a B m d b w ha hb ht hf hf2 hmb h
    · exact f8_low A n c a B m d b w ha hb ht hf hf2 hmb h
end Go.Proofs.YtiodednhadnekaaDoor
