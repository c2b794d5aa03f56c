/- Walks: BedTurns. -/
import Derived.Test.YtiodednhadnekaaDoorW52
import Derived.Test.YtiodednhadnekaaDoorW54
namespace Go.Proofs.YtiodednhadnekaaDoor
open Go.RowKit Go.Deep
attribute [local go_sem ↓] Go.wp_at_zero Go.wp_at_succ

instance (n s : Int) : Decidable (cycOk n s) := by unfold cycOk; infer_instance
/-- What Cyclic returns. -/
def cycE (n s : Int) : Int := if cycOk n s then 0 else 2
def cycG (n s : Int) : List (List Int) := if cycOk n s then cycL n.toNat s.toNat else []
theorem f38_any (n s : Int) (w : World) :
    Calls Tryd.prog 38 #[.int .i64 n, .int .i64 s] w fun e w' => ∃ A k c, e = .returned (.tuple #[.slice A k c, .int .i64 (cycE n s)]) ∧ Beds w' A k c (cycG n s) ∧ Below w.heap.size w w' := by
  unfold cycE cycG
  by_cases h : cycOk n s
  · rw [if_pos h, if_pos h]
    obtain ⟨N, rfl⟩ := nat_of n (by have := h.1; omega)
    obtain ⟨S, rfl⟩ := nat_of s (by have := h.2.2.1; omega)
    refine (f38_yes N S w h).mono fun e w' ⟨A, c, h1, h2, h3⟩ => ⟨A, N, c, h1, ?_, h3⟩
    simpa using h2.beds
  · rw [if_neg h, if_neg h]
    refine (f38_no n s w h).mono fun e w' ⟨h1, q, h2⟩ => ⟨none, 0, 0, h1, ?_, ?_⟩
    · exact Beds.nil _
    · rw [h2]; exact below_drewN (Below.refl _ _) q
theorem f40_any (n s : Int) (w : World) :
    Calls Tryd.prog 40 #[.int .i64 n, .int .i64 s] w fun e w' => ∃ A k c, e = .returned (.tuple #[.slice A k c, .int .i64 (cycE n s)]) ∧ Beds w' A k c (cycG n s) ∧ Below w.heap.size w w' := by
  unfold cycE cycG
  by_cases h : cycOk n s
  · rw [if_pos h, if_pos h]
    obtain ⟨N, rfl⟩ := nat_of n (by have := h.1; omega)
    obtain ⟨S, rfl⟩ := nat_of s (by have := h.2.2.1; omega)
    refine (f40_yes N S w h).mono fun e w' ⟨A, c, h1, h2, h3⟩ => ⟨A, N, c, h1, ?_, h3⟩
    simpa using h2
  · rw [if_neg h, if_neg h]
    refine (f40_no n s w h).mono fun e w' ⟨h1, q, h2⟩ => ⟨none, 0, 0, h1, ?_, ?_⟩
    · exact Beds.nil _
    · rw [h2]; exact below_drewN (Below.refl _ _) q
theorem f20_true (A B : Option Addr) (n c m d : Nat) (xs : List (List Int)) (w : World) (hs : Beds w A n c xs) (ho : Beds w B m d xs) :
    Calls Tryd.prog 20 #[.slice A n c, .slice B m d] w fun e w' => e = .returned (.bool true) ∧ Below w.heap.size w w' :=
  (f20_any A B n c m d xs xs w hs ho).mono fun e w' ⟨h1, q, h2⟩ => ⟨by rw [h1, decide_eq_true rfl], by rw [h2]; exact below_drewN (Below.refl _ _) q⟩
set_option maxRecDepth 100000 in
set_option maxHeartbeats 8000000 in
/-- dibberlaw01.BedTurns -/
theorem f12_any (N S : Int) (A : Option Addr) (n c : Nat) (b : List (List Int)) (w : World) (hs : CameB w A n c b) (ht : Tab w) :
    Calls Tryd.prog 12 #[.int .i64 N, .int .i64 S, .slice A n c] w fun e w' => e = .returned (.bool true) ∧ Below w.heap.size w w' := by
  have K16 := Lib.hid (f16_any A c n (b.map List.length) w hs.1)
  have K17 : Hid (∀ W, Below w.heap.size w W → Calls Tryd.prog 17 #[] W fun e w' => e = .returned (.bool true) ∧ Below W.heap.size W w') := Lib.hid fun W h => f17_any W (ht.below h)
  cases hf : fewB (b.map List.length)
  · rw [hf] at K16
    clear hs hf ht
    go_enter Tryd.func12, Tryd.ntmps12
    go_wp2_with fail
    refine K16.out.mono ?_
    rintro e w1 ⟨rfl, rfl⟩
    go_wp2_with fail
    refine (K17.out _ (Below.refl _ _)).mono ?_
    rintro e w2 ⟨rfl, hb⟩
    have HB := Lib.hid hb
    clear hb
    go_wp2
    go_ret
    exact ⟨rfl, HB.out⟩
  · rw [hf] at K16
    have HB := Lib.hid (hs.beds hf)
    clear hs hf ht
    go_enter Tryd.func12, Tryd.ntmps12
    go_wp2_with fail
    refine K16.out.mono ?_
    rintro e w1 ⟨rfl, rfl⟩
    go_wp2_with fail
    refine (f38_any N S w).mono ?_
    rintro e w2 ⟨A2, k2, c2, rfl, hN2, hb2⟩
    have B2 := Lib.hid hb2
    have N2 := Lib.hid hN2
    clear hb2 hN2
    go_wp2_with fail
    refine (f40_any N S w2).mono ?_
    rintro e w3 ⟨A3, k3, c3, rfl, hN3, hb3⟩
    have B3 := Lib.hid (below_step B2.out hb3)
    have K20 := Lib.hid (f20_true A2 A3 k2 c2 k3 c3 (cycG N S) w3 (N2.out.below hb3) hN3)
    generalize cycE N S = x1 at *
    have h1 : (x1 != x1) = false := by simp
    clear hb3 hN3 N2 B2
    go_wp2_with fail
    refine K20.out.mono ?_
    rintro e w4 ⟨rfl, hb4⟩
    have B4 := Lib.hid (below_step B3.out hb4)
    clear hb4 B3 K20
    go_wp2_with fail
    refine (f41_any A n c b w4 (HB.out.below B4.out)).mono ?_
    rintro e w5 ⟨rfl, hb5⟩
    have B5 := Lib.hid (below_step B4.out hb5)
    clear hb5 B4
    go_wp2_with fail
    refine (f42_any A n c b w5 (HB.out.below B5.out)).mono ?_
    rintro e w6 ⟨rfl, hb6⟩
    have B6 := Lib.hid (below_step B5.out hb6)
    clear hb6 B5
    generalize sqC b = x2 at *
    have h2 : (x2 != x2) = false := by simp
    obtain ⟨x3, hx3⟩ : ∃ z, z = trE b := ⟨_, rfl⟩
    have h3 : (x3 != x3) = false := by simp
    have h4 : (x3 == x3) = true := by simp
    have K43 : Hid (Calls Tryd.prog 43 #[.slice A n c] w6 fun e w' => ∃ A1 k1 c1 A2 k2 c2, e = .returned (.tuple #[.slice A1 k1 c1, .slice A2 k2 c2, .int .i64 x3]) ∧ Beds w' A1 k1 c1 (tuX b) ∧ Beds w' A2 k2 c2 (tuY b) ∧ Below w6.heap.size w6 w') := Lib.hid (by rw [hx3]; exact f43_any A n c b w6 (HB.out.below B6.out))
    have K44 : Hid (∀ W, Below w.heap.size w W → Calls Tryd.prog 44 #[.slice A n c] W fun e w' => ∃ A1 k1 c1 A2 k2 c2, e = .returned (.tuple #[.slice A1 k1 c1, .slice A2 k2 c2, .int .i64 x3]) ∧ Beds w' A1 k1 c1 (tuX b) ∧ Beds w' A2 k2 c2 (tuY b) ∧ Below W.heap.size W w') := Lib.hid fun W h => by rw [hx3]; exact f44_any A n c b W (HB.out.below h)
    rw [← hx3]
    clear hx3
    go_wp2_with fail
    refine K43.out.mono ?_
    rintro e w7 ⟨A4, k4, c4, A5, k5, c5, rfl, hX, hY, hb7⟩
    have B7 := Lib.hid (below_step B6.out hb7)
    have HX := Lib.hid hX
    have HY := Lib.hid hY
    clear hX hY hb7 B6 K43
    go_wp2_with fail
    refine (K44.out w7 B7.out).mono ?_
    rintro e w8 ⟨A6, k6, c6, A7, k7, c7, rfl, hX8, hY8, hb8⟩
    have B8 := Lib.hid (below_step B7.out hb8)
    have KX := Lib.hid (f20_true A4 A6 k4 c4 k6 c6 (tuX b) w8 (HX.out.below hb8) hX8)
    have HY7 := Lib.hid (HY.out.below hb8)
    have HY8 := Lib.hid hY8
    clear hX8 hY8 hb8 B7 K44 HX HY
    go_wp2_with fail
    refine KX.out.mono ?_
    rintro e w9 ⟨rfl, hb9⟩
    have B9 := Lib.hid (below_step B8.out hb9)
    have KY := Lib.hid (f20_true A5 A7 k5 c5 k7 c7 (tuY b) w9 (HY7.out.below hb9) (HY8.out.below hb9))
    clear hb9 B8 KX
    go_wp2_with fail
    refine KY.out.mono ?_
    rintro e w10 ⟨rfl, hb10⟩
    have B10 := Lib.hid (below_step B9.out hb10)
    clear hb10 B9 KY
    go_wp2_with fail
    refine (K17.out w10 B10.out).mono ?_
    rintro e w11 ⟨rfl, hb11⟩
    have B11 := Lib.hid (below_step B10.out hb11)
    clear hb11
    go_wp2
    go_ret
    exact ⟨rfl, B11.out⟩
end Go.Proofs.YtiodednhadnekaaDoor
