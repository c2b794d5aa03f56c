/- Walks: slices.Equal, and what Corners compacts with. -/
import Derived.Test.YtmepndnckcpgjaaGreatW13
import Derived.Test.YtmepndnckcpgjaaGreatPlain15
namespace Go.Proofs.YtmepndnckcpgjaaGreat
open Go.RowKit

set_option maxRecDepth 100000 in
set_option maxHeartbeats 4000000 in
/-- slices.Equal -/
theorem f81s_any (A B : Option Addr) (n c m d : Nat) (xs ys : List Int) (w : World) (hs : Ints w A n xs) (ho : Ints w B m ys) :
    Calls Tryz.prog 29 #[.slice A n c, .slice B m d] w fun e w' => e = .returned (.bool (decide (xs = ys))) ∧ ∃ k, w' = w.drewN k := by
  have hsm := hs.small
  have hsm2 := ho.small
  have hl1 := Lib.hid hs.len
  have hl2 := Lib.hid ho.len
  by_cases hnm : n = m
  · subst hnm
    have HS := Lib.hid hs
    have HO := Lib.hid ho
    clear hs ho
    go_enter Tryz.func29, Tryz.ntmps29
    go_wp2
    go_loopw [13] (fun i wr => ∃ k : Nat, k ≤ n ∧ i = .int .i64 k ∧ (∀ j, j < k → xs.getD j 0 = ys.getD j 0) ∧ ∃ q, wr = w.drewN q) (fun i _ => n - (intOf i).toNat)
    case atStart => exact ⟨0, by omega, rfl, fun j hj => absurd hj (by omega), 0, rfl⟩
    case round =>
      obtain ⟨k, hk, rfl, hbef, q, rfl⟩ := hrel
      have HB := Lib.hid hbef
      clear hbef
      by_cases hlt : k < n
      · obtain ⟨b, off, rfl, hc⟩ := (HS.out).at_ hlt
        obtain ⟨b2, off2, rfl, hc2⟩ := (HO.out).at_ hlt
        have hx : Hid (∀ u v, xs.getD k 0 = u → ys.getD k 0 = v → u ≠ v → decide (xs = ys) = false) := fun u v h1 h2 h3 => by
          apply decide_eq_false
          rintro rfl
          exact h3 (h1.symm.trans h2)
        have hx2 : Hid (∀ u v, xs.getD k 0 = u → ys.getD k 0 = v → u = v → xs.getD k 0 = ys.getD k 0) := fun u v h1 h2 h3 => by rw [h1, h2, h3]
        generalize hu : xs.getD k 0 = u at *
        generalize hv : ys.getD k 0 = v at *
        have HU := Lib.hid hu
        have HV := Lib.hid hv
        clear hu hv
        by_cases he : u = v
        · have hq : (u != v) = false := by simpa using he
          have HE := Lib.hid he
          clear he
          go_wp2
          go_quiet (fail)
          go_wp2
          go_roundw
          case rel => exact ⟨k + 1, by omega, by go_num, fun j hj => by
            rcases Nat.lt_or_ge j k with h | h
            · exact HB.out j h
            · obtain rfl : j = k := by omega
              rw [HU.out, HV.out, HE.out], by first | exact ⟨_, rfl⟩ | exact ⟨_, World.drewN_drewN _ _ _⟩⟩
          case measure => simp [intOf]; omega
        · have hq : (u != v) = true := by simpa using he
          have HF := Lib.hid (hx.out u v rfl rfl he)
          clear he
          go_wp2
          go_quiet (fail)
          go_wp2
          go_ret
          exact ⟨ret_bool HF.out.symm, by first | exact ⟨_, rfl⟩ | exact ⟨_, World.drewN_drewN _ _ _⟩⟩
      · obtain rfl : k = n := by omega
        have hfin : Hid (decide (xs = ys) = true) := decide_eq_true (getD_ext (by rw [hl1.out, hl2.out]) (fun j hj => HB.out j (by rw [hl1.out] at hj; exact hj)))
        go_wp2
        go_ret
        exact ⟨ret_bool hfin.out.symm, q, rfl⟩
  · have hq : ((n : Int) != (m : Int)) = true := by simp; omega
    have hfin : Hid (decide (xs = ys) = false) := decide_eq_false (by rintro rfl; exact hnm (hl1.out.symm.trans hl2.out))
    clear hnm
    go_enter Tryz.func29, Tryz.ntmps29
    go_wp2
    go_ret
    exact ⟨ret_bool hfin.out.symm, 0, rfl⟩

/-- share.Corners$3 -/
theorem f80s_any (A B : Option Addr) (n c m d : Nat) (xs ys : List Int) (w : World) (hs : Ints w A n xs) (ho : Ints w B m ys) :
    Calls Tryz.prog 28 #[.slice A n c, .slice B m d] w fun e w' => e = .returned (.bool (decide (xs = ys))) ∧ ∃ k, w' = w.drewN k := by
  have K := Lib.hid (f81s_any A B n c m d xs ys w hs ho)
  generalize decide (xs = ys) = r at *
  clear hs ho
  go_enter Tryz.func28, Tryz.ntmps28
  go_wp2_with fail
  refine K.out.mono ?_
  rintro e w1 ⟨rfl, k, rfl⟩
  go_wp2
  go_ret
  exact ⟨rfl, k, rfl⟩
end Go.Proofs.YtmepndnckcpgjaaGreat
