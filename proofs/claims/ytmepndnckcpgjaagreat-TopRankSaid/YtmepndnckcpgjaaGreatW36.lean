/- Walks: slices.Compare, and what Corners compares with. -/
import Derived.Test.YtmepndnckcpgjaaGreatBase3
import Derived.Test.YtmepndnckcpgjaaGreatW1
import Derived.Test.YtmepndnckcpgjaaGreatPlain15
namespace Go.Proofs.YtmepndnckcpgjaaGreat
open Go.RowKit

/-- cmp.isNaN at int -/
theorem f89r (x : Int) (w : World) : Calls Tryz.prog 53 #[.int .i64 x] w fun e w' => e = .returned (.bool false) ∧ w = w' := by
  go_enter Tryz.func53, Tryz.ntmps53
  go_wp2
  go_ret
  simp
def sgn3 (x y : Int) : Int := if x < y then -1 else if y < x then 1 else 0
/-- cmp.Compare at int -/
theorem f69r (x y : Int) (w : World) : Calls Tryz.prog 38 #[.int .i64 x, .int .i64 y] w fun e w' => e = .returned (.int .i64 (sgn3 x y)) ∧ w = w' := by
  by_cases h1 : x < y
  · have e : Hid (sgn3 x y = -1) := by unfold sgn3; rw [if_pos h1]; rfl
    go_enter Tryz.func38, Tryz.ntmps38
    go_wp2_with (go_at_call 53; refine (f89r _ _).mono ?_; rintro e w' ⟨rfl, rfl⟩)
    go_ret
    exact ⟨ret_int e.out.symm, rfl⟩
  by_cases h2 : y < x
  · have e : Hid (sgn3 x y = 1) := by unfold sgn3; rw [if_neg h1, if_pos h2]; rfl
    go_enter Tryz.func38, Tryz.ntmps38
    go_wp2_with (go_at_call 53; refine (f89r _ _).mono ?_; rintro e w' ⟨rfl, rfl⟩)
    go_ret
    exact ⟨ret_int e.out.symm, rfl⟩
  · have e : Hid (sgn3 x y = 0) := by unfold sgn3; rw [if_neg h1, if_neg h2]; rfl
    go_enter Tryz.func38, Tryz.ntmps38
    go_wp2_with (go_at_call 53; refine (f89r _ _).mono ?_; rintro e w' ⟨rfl, rfl⟩)
    go_ret
    exact ⟨ret_int e.out.symm, rfl⟩

theorem cmpL_at {xs ys : List Int} {k : Nat} (h1 : k < xs.length) (h2 : k < ys.length) : cmpL (xs.drop k) (ys.drop k) = if sgn3 (xs.getD k 0) (ys.getD k 0) = 0 then cmpL (xs.drop (k + 1)) (ys.drop (k + 1)) else sgn3 (xs.getD k 0) (ys.getD k 0) := by
  rw [List.drop_eq_getElem_cons h1, List.drop_eq_getElem_cons h2]
  simp only [List.getD_eq_getElem?_getD, List.getElem?_eq_getElem h1, List.getElem?_eq_getElem h2, Option.getD_some]
  generalize xs[k] = x
  generalize ys[k] = y
  generalize xs.drop (k + 1) = X
  generalize ys.drop (k + 1) = Y
  have e : cmpL (x :: X) (y :: Y) = if x < y then -1 else if y < x then 1 else cmpL X Y := by rw [cmpL]
  rw [e]
  unfold sgn3
  by_cases a : x < y
  · simp [a]
  · by_cases b : y < x
    · simp [a, b]
    · simp [a, b]
theorem cmpL_long {xs ys : List Int} {k : Nat} (h1 : k < xs.length) (h2 : ys.length ≤ k) : cmpL (xs.drop k) (ys.drop k) = 1 := by
  rw [List.drop_eq_getElem_cons h1, List.drop_eq_nil_of_le h2]; rfl
theorem cmpL_end {xs ys : List Int} {k : Nat} (h1 : xs.length ≤ k) : cmpL (xs.drop k) (ys.drop k) = if k < ys.length then -1 else 0 := by
  rw [List.drop_eq_nil_of_le h1]
  by_cases h : k < ys.length
  · rw [if_pos h, List.drop_eq_getElem_cons h]; rfl
  · rw [if_neg h, List.drop_eq_nil_of_le (by omega)]; rfl
set_option maxRecDepth 100000 in
set_option maxHeartbeats 4000000 in
/-- slices.Compare -/
theorem f78s_any (A B : Option Addr) (n c m d : Nat) (xs ys : List Int) (w : World) (ha : Ints w A n xs) (hb : Ints w B m ys) :
    Calls Tryz.prog 26 #[.slice A n c, .slice B m d] w fun e w' => e = .returned (.int .i64 (cmpL xs ys)) ∧ w = w' := by
  have hn := ha.small
  have hm := hb.small
  have hxl := ha.len
  have hyl := hb.len
  have HA := Lib.hid ha
  have HB := Lib.hid hb
  have HAT : Hid (∀ k, k < n → k < m → cmpL (xs.drop k) (ys.drop k) = if sgn3 (xs.getD k 0) (ys.getD k 0) = 0 then cmpL (xs.drop (k + 1)) (ys.drop (k + 1)) else sgn3 (xs.getD k 0) (ys.getD k 0)) := Lib.hid fun k h1 h2 => cmpL_at (by omega) (by omega)
  have HLONG : Hid (∀ k, k < n → m ≤ k → cmpL (xs.drop k) (ys.drop k) = 1) := Lib.hid fun k h1 h2 => cmpL_long (by omega) (by omega)
  have HEND : Hid (cmpL (xs.drop n) (ys.drop n) = if n < m then -1 else 0) := Lib.hid (by rw [cmpL_end (by omega), hyl])
  have H0 : Hid (cmpL (xs.drop 0) (ys.drop 0) = cmpL xs ys) := rfl
  obtain ⟨R, hR⟩ : ∃ z, z = cmpL xs ys := ⟨_, rfl⟩
  rw [← hR] at H0 ⊢
  have hn0 : (0 : Int) ≤ (n : Int) := by omega
  clear ha hb hR hxl hyl
  go_enter Tryz.func26, Tryz.ntmps26
  go_wp2
  go_loop [11] (fun i => ∃ k : Nat, k ≤ n ∧ i = .int .i64 (k : Int) ∧ Hid (cmpL (xs.drop k) (ys.drop k) = R)) (fun i => n - (intOf i).toNat)
  case atStart => exact ⟨0, by omega, rfl, H0.out⟩
  case round => as_aux_lemma =>
    obtain ⟨k, hk, rfl, hc⟩ := hrel
    by_cases hkn : k < n
    · obtain ⟨g1, o1, rfl, hc1⟩ := HA.out.at_ hkn
      have k0 : (0 : Int) ≤ (k : Int) := by omega
      have kn : (k : Int) < (n : Int) := by omega
      rcases Nat.lt_or_ge k m with hkm | hkm
      · obtain ⟨g2, o2, rfl, hc2⟩ := HB.out.at_ hkm
        have km : ¬ (m : Int) ≤ (k : Int) := by omega
        have km2 : (k : Int) < (m : Int) := by omega
        have HX := Lib.hid (HAT.out k hkn hkm)
        generalize xs.getD k 0 = x at *
        generalize ys.getD k 0 = y at *
        have K := Lib.hid (f69r x y w)
        generalize sgn3 x y = z at *
        by_cases hz : z = 0
        · have HN : Hid (cmpL (xs.drop (k + 1)) (ys.drop (k + 1)) = R) := Lib.hid (by rw [← hc.out, HX.out, if_pos hz])
          subst hz
          clear HX hc
          go_wp2_with fail
          refine K.out.mono ?_
          rintro e w1 ⟨rfl, rfl⟩
          go_wp2
          go_round
          case rel => exact ⟨k + 1, by omega, by go_num, HN.out⟩
          case measure => simp [intOf]; omega
        · have HN : Hid (z = R) := Lib.hid (by rw [← hc.out, HX.out, if_neg hz])
          have hq : (z != 0) = true := by simpa using hz
          clear HX hc
          go_wp2_with fail
          refine K.out.mono ?_
          rintro e w1 ⟨rfl, rfl⟩
          go_wp2
          go_ret
          exact ⟨by rw [← HN.out]; rfl, rfl⟩
      · have km : (m : Int) ≤ (k : Int) := by omega
        have HN : Hid (R = 1) := Lib.hid (by rw [← hc.out, HLONG.out k hkn hkm])
        clear hc
        go_wp2
        go_ret
        exact ⟨by rw [HN.out]; rfl, rfl⟩
    · obtain rfl : k = n := by omega
      have HN : Hid (R = if k < m then -1 else 0) := Lib.hid (by rw [← hc.out, HEND.out])
      clear hc
      by_cases h : k < m
      · have h1 : (k : Int) < (m : Int) := by omega
        have HN2 : Hid (R = -1) := Lib.hid (by rw [HN.out, if_pos h])
        go_wp2
        go_ret
        exact ⟨by rw [HN2.out]; rfl, rfl⟩
      · have h1 : ¬ (k : Int) < (m : Int) := by omega
        have HN2 : Hid (R = 0) := Lib.hid (by rw [HN.out, if_neg h])
        go_wp2
        go_ret
        exact ⟨by rw [HN2.out]; rfl, rfl⟩
/-- share.Corners$2 -/
theorem f77_any (A B : Option Addr) (n c m d : Nat) (xs ys : List Int) (w : World) (ha : Ints w A n xs) (hb : Ints w B m ys) :
    Calls Tryz.prog 25 #[.slice A n c, .slice B m d] w fun e w' => e = .returned (.int .i64 (cmpL xs ys)) ∧ w = w' := by
  have K := Lib.hid (f78s_any A B n c m d xs ys w ha hb)
  generalize cmpL xs ys = R at *
  clear ha hb
  go_enter Tryz.func25, Tryz.ntmps25
  go_wp2_with fail
  refine K.out.mono ?_
  rintro e w1 ⟨rfl, rfl⟩
  go_wp2
  go_ret
  exact ⟨rfl, rfl⟩
end Go.Proofs.YtmepndnckcpgjaaGreat
