/- Walks: shared, Sharing, paid, pays, below (both), over, fair. -/
import Derived.Test.YtpehhbiodmgjeaaW21
import Derived.Test.YtpehhbiodmgjeaaPlain7
namespace Go.Proofs.Ytpehhbiodmgjeaa
open Go.RowKit

/-- (*costs).shared$1 -/
theorem f85_any (x : Int) (g : Nat) (w : World) (hc : w.cell? ⟨g, 0, none⟩ = some (.int .i64 6000000)) : Calls Try.prog 85 (#[.int .i64 x] ++ #[.pointer (some ⟨g, 0, none⟩)]) w fun e w' => e = .returned (.bool (outS x)) ∧ w = w' := by
  unfold outS
  show Calls Try.prog 85 #[.int .i64 x, .pointer (some ⟨g, 0, none⟩)] w _
  by_cases h1 : x < -6000000
  · go_enter Try.func85, Try.ntmps85
    go_wp2
    go_ret
    simp [h1]
  · go_enter Try.func85, Try.ntmps85
    go_wp2
    go_ret
    simp; omega
theorem enter85 (args : Array Value) (w : World) : (callFunc 85 args).run Try.prog w = .ok (.enter 85 args) w := by
  simp [go_sem]

set_option maxHeartbeats 1000000 in
/-- (*costs).shared -/
theorem f59_any (p : Nat) (A B : Option Addr) (n len c m d : Nat) (l : List Int) (w : World) (hp : Costs w p n A len c) (ho : Ints w B m l) :
    Calls Try.prog 59 #[.pointer (some ⟨p, 0, none⟩), .slice B m d] w fun e w' => e = .returned (.bool (shOk n l)) ∧ Below w.heap.size w w' := by
  have b0 := Lib.hid (below_alloc w (.cells #[.int .i64 6000000] 3))
  have k84 : Hid (Calls Try.prog 84 #[.slice B m d, .func (.func 85) #[] #[.pointer (some ⟨w.heap.size, 0, none⟩)]] (w.alloc (.cells #[.int .i64 6000000] 3)) fun e w' => e = .returned (.bool (l.any outS)) ∧ w.alloc (.cells #[.int .i64 6000000] 3) = w') :=
    f84_any B m d l 85 _ outS _ (ho.below b0.out) enter85 fun k _ => f85_any _ _ _ (cell_new _ _ _ _)
  have hol := Lib.hid ho.len
  have hfin : Hid (shOk n l = (decide (m = n) && !l.any outS)) := by unfold shOk; rw [hol.out]; rfl
  have hc0 := (hp.below b0.out).1
  have hsm := ho.small
  clear ho hp
  by_cases hm : m = n
  · subst hm
    go_enter Try.func59, Try.ntmps59
    go_wp2_with fail
    refine k84.out.mono ?_
    rintro e w' ⟨rfl, rfl⟩
    go_wp2
    go_ret
    exact ⟨ret_bool (by rw [hfin.out]; simp), b0.out⟩
  · have hq : ((m : Int) == (n : Int)) = false := by simp; omega
    have hf2 : Hid (shOk n l = false) := by rw [hfin.out]; simp [Hid, hm]
    clear hm
    go_enter Try.func59, Try.ntmps59
    go_wp2
    go_ret
    exact ⟨ret_bool hf2.out.symm, b0.out⟩

set_option maxHeartbeats 1000000 in
/-- dibberref08.Sharing -/
theorem f43_any (B : Option Addr) (n m d : Nat) (l : List Int) (w : World) (ho : Ints w B m l) (hn : n ≤ 6) :
    Calls Try.prog 43 #[.int .i64 (n : Int), .slice B m d] w fun e w' => e = .returned (.bool (shOk n l)) ∧ w = w' := by
  have hsm := ho.small
  have hol := Lib.hid ho.len
  have HO := Lib.hid ho
  clear ho
  by_cases hm : m = n
  · subst hm
    go_enter Try.func43, Try.ntmps43
    go_wp2
    go_loop [5] (fun i => ∃ k : Nat, k ≤ m ∧ i = .int .i64 k ∧ (∀ j, j < k → outS (l.getD j 0) = false)) (fun i => m - (intOf i).toNat)
    case atStart => exact ⟨0, by omega, rfl, fun j hj => absurd hj (by omega)⟩
    case round =>
      obtain ⟨k, hk, rfl, hbef⟩ := hrel
      have HB := Lib.hid hbef
      clear hbef
      by_cases hlt : k < m
      · obtain ⟨b, off, rfl, hc⟩ := HO.out.at_ hlt
        have hbad : Hid (outS (l.getD k 0) = true → shOk m l = false) := shOk_bad k (by rw [hol.out]; exact hlt)
        generalize hx : l.getD k 0 = x at *
        have HX := Lib.hid hx
        clear hx
        by_cases t1 : x < -6000000
        · have hf := Lib.hid (hbad.out (by simp [outS, t1]))
          go_wp2
          go_ret
          exact ⟨ret_bool hf.out.symm, rfl⟩
        by_cases t2 : 6000000 < x
        · have hf := Lib.hid (hbad.out (by simp [outS, t2]))
          go_wp2
          go_ret
          exact ⟨ret_bool hf.out.symm, rfl⟩
        have hg : Hid (outS x = false) := by simp [Hid, outS]; omega
        go_wp2
        go_round
        case rel => exact ⟨k + 1, by omega, by go_num, fun j hj => by
          rcases Nat.lt_or_ge j k with h | h
          · exact HB.out j h
          · obtain rfl : j = k := by omega
            rw [HX.out]; exact hg.out⟩
        case measure => simp [intOf]; omega
      · obtain rfl : k = m := by omega
        have hfin : Hid (shOk k l = true) := shOk_mk hol.out fun j hj => by
          have := HB.out j hj
          simp only [outS, Bool.or_eq_false_iff, decide_eq_false_iff_not] at this
          omega
        go_wp2
        go_ret
        exact ⟨ret_bool hfin.out.symm, rfl⟩
  · have hq : ((m : Int) != (n : Int)) = true := by simp; omega
    have hfin : Hid (shOk n l = false) := by simp [Hid, shOk, hol.out, hm]
    clear hm
    go_enter Try.func43, Try.ntmps43
    go_wp2
    go_ret
    exact ⟨ret_bool hfin.out.symm, rfl⟩

set_option maxHeartbeats 1000000 in
/-- share.paid -/
theorem f61_any (B : Option Addr) (m d g : Nat) (l : List Int) (w : World) (ho : Ints w B m l) (hm : m ≤ 6) (hg : g < 64) (hb : ∀ j, -6000000 ≤ l.getD j 0 ∧ l.getD j 0 ≤ 6000000) :
    Calls Try.prog 61 #[.slice B m d, .int .i64 (g : Int)] w fun e w' => e = .returned (.int .i64 (pay l g)) ∧ w = w' := by
  have hfin : Hid (pay l g = payTo l g m) := by unfold pay; rw [ho.len]; rfl
  have HO := Lib.hid ho
  have HB := Lib.hid hb
  clear ho hb
  go_enter Try.func61, Try.ntmps61
  go_wp2
  go_loop [5, 6, 7, 10] (fun s _ _ i => ∃ k : Nat, k ≤ m ∧ i = .int .i64 k ∧ s = .int .i64 (payTo l g k)) (fun _ _ _ i => m - (intOf i).toNat)
  case atStart => exact ⟨0, by omega, rfl, rfl⟩
  case round =>
    obtain ⟨k, hk, rfl, rfl⟩ := hrel
    by_cases hlt : k < m
    · obtain ⟨b, off, rfl, hc⟩ := HO.out.at_ hlt
      have hst : Hid (payTo l g (k + 1) = payTo l g k + if g.testBit k then l.getD k 0 else 0) := rfl
      have hpi := payTo_in l g k HB.out
      have hxi := HB.out k
      have es := shr_and g k (by omega)
      generalize l.getD k 0 = x at *
      generalize payTo l g k = v at *
      cases hbt : g.testBit k
      · have hs2 : Hid (payTo l g (k + 1) = v) := by rw [hst.out]; unfold Hid; simp [hbt]
        simp only [hbt] at es
        clear hbt hst
        go_wp2
        go_round
        case rel => exact ⟨k + 1, by omega, by go_num, by rw [hs2.out]⟩
        case measure => simp [intOf]; omega
      · have hs2 : Hid (payTo l g (k + 1) = v + x) := by rw [hst.out]; unfold Hid; simp [hbt]
        simp only [hbt] at es
        clear hbt hst
        go_wp2
        go_round
        case rel => exact ⟨k + 1, by omega, by go_num, by rw [hs2.out]⟩
        case measure => simp [intOf]; omega
    · obtain rfl : k = m := by omega
      go_wp2
      go_ret
      exact ⟨ret_int hfin.out.symm, rfl⟩

set_option maxHeartbeats 1000000 in
/-- dibberref08.pays -/
theorem f86_any (B : Option Addr) (m d g : Nat) (l : List Int) (w : World) (ho : Ints w B m l) (hm : m ≤ 6) (_hg : g < 64) (hb : ∀ j, -6000000 ≤ l.getD j 0 ∧ l.getD j 0 ≤ 6000000) :
    Calls Try.prog 86 #[.slice B m d, .int .i64 (g : Int)] w fun e w' => e = .returned (.int .i64 (pay l g)) ∧ w = w' := by
  have hfin : Hid (pay l g = payTo l g m) := by unfold pay; rw [ho.len]; rfl
  have HO := Lib.hid ho
  have HB := Lib.hid hb
  clear ho hb
  go_enter Try.func86, Try.ntmps86
  go_wp2
  go_loop [5, 6] (fun s i => ∃ k : Nat, k ≤ m ∧ i = .int .i64 k ∧ s = .int .i64 (payTo l g k)) (fun _ i => m - (intOf i).toNat)
  case atStart => exact ⟨0, by omega, rfl, rfl⟩
  case round =>
    obtain ⟨k, hk, rfl, rfl⟩ := hrel
    by_cases hlt : k < m
    · obtain ⟨b, off, rfl, hc⟩ := HO.out.at_ hlt
      have hst : Hid (payTo l g (k + 1) = payTo l g k + if g.testBit k then l.getD k 0 else 0) := rfl
      have hpi := payTo_in l g k HB.out
      have hxi := HB.out k
      have es := shr_bit g k
      generalize l.getD k 0 = x at *
      generalize payTo l g k = v at *
      cases hbt : g.testBit k
      · have hs2 : Hid (payTo l g (k + 1) = v) := by rw [hst.out]; unfold Hid; simp [hbt]
        simp only [hbt] at es
        clear hbt hst
        go_wp2
        go_round
        case rel => exact ⟨k + 1, by omega, by go_num, by rw [hs2.out]⟩
        case measure => simp [intOf]; omega
      · have hs2 : Hid (payTo l g (k + 1) = v + x) := by rw [hst.out]; unfold Hid; simp [hbt]
        simp only [hbt] at es
        clear hbt hst
        go_wp2
        go_round
        case rel => exact ⟨k + 1, by omega, by go_num, by rw [hs2.out]⟩
        case measure => simp [intOf]; omega
    · obtain rfl : k = m := by omega
      go_wp2
      go_ret
      exact ⟨ret_int hfin.out.symm, rfl⟩

set_option maxHeartbeats 1000000 in
/-- share.below -/
theorem f62_any (B : Option Addr) (m d : Nat) (l : List Int) (w : World) (ho : Ints w B m l) (hm : m ≤ 6) (hb : ∀ j, -6000000 ≤ l.getD j 0 ∧ l.getD j 0 ≤ 6000000) :
    Calls Try.prog 62 #[.slice B m d] w fun e w' => e = .returned (.int .i64 (belowS l)) ∧ w = w' := by
  have hfin : Hid (belowS l = belowTo l m) := by unfold belowS; rw [ho.len]; rfl
  have HO := Lib.hid ho
  have HB := Lib.hid hb
  clear ho hb
  go_enter Try.func62, Try.ntmps62
  go_wp2
  go_loop [3, 5, 8] (fun s _ i => ∃ k : Nat, k ≤ m ∧ i = .int .i64 k ∧ s = .int .i64 (belowTo l k)) (fun _ _ i => m - (intOf i).toNat)
  case atStart => exact ⟨0, by omega, rfl, rfl⟩
  case round =>
    obtain ⟨k, hk, rfl, rfl⟩ := hrel
    by_cases hlt : k < m
    · obtain ⟨b, off, rfl, hc⟩ := HO.out.at_ hlt
      have hpi := belowTo_in l k HB.out
      have hxi := HB.out k
      have hst : Hid (belowTo l (k + 1) = belowTo l k + (if (0 : Int) < l.getD k 0 then 0 else l.getD k 0)) := rfl
      generalize l.getD k 0 = x at *
      generalize belowTo l k = v at *
      by_cases hx : 0 < x
      · rw [if_pos hx] at hst
        go_wp2
        go_round
        case rel => exact ⟨k + 1, by omega, by go_num, by rw [hst.out]; first | rfl | go_num⟩
        case measure => simp [intOf]; omega
      · rw [if_neg hx] at hst
        go_wp2
        go_round
        case rel => exact ⟨k + 1, by omega, by go_num, by rw [hst.out]⟩
        case measure => simp [intOf]; omega
    · obtain rfl : k = m := by omega
      go_wp2
      go_ret
      exact ⟨ret_int hfin.out.symm, rfl⟩

set_option maxHeartbeats 1000000 in
/-- dibberref08.below -/
theorem f64_any (B : Option Addr) (m d : Nat) (l : List Int) (w : World) (ho : Ints w B m l) (hm : m ≤ 6) (hb : ∀ j, -6000000 ≤ l.getD j 0 ∧ l.getD j 0 ≤ 6000000) :
    Calls Try.prog 64 #[.slice B m d] w fun e w' => e = .returned (.int .i64 (belowS l)) ∧ w = w' := by
  have hfin : Hid (belowS l = belowTo l m) := by unfold belowS; rw [ho.len]; rfl
  have HO := Lib.hid ho
  have HB := Lib.hid hb
  clear ho hb
  go_enter Try.func64, Try.ntmps64
  go_wp2
  go_loop [3, 4] (fun s i => ∃ k : Nat, k ≤ m ∧ i = .int .i64 k ∧ s = .int .i64 (belowTo l k)) (fun _ i => m - (intOf i).toNat)
  case atStart => exact ⟨0, by omega, rfl, rfl⟩
  case round =>
    obtain ⟨k, hk, rfl, rfl⟩ := hrel
    by_cases hlt : k < m
    · obtain ⟨b, off, rfl, hc⟩ := HO.out.at_ hlt
      have hpi := belowTo_in l k HB.out
      have hxi := HB.out k
      have hst : Hid (belowTo l (k + 1) = belowTo l k + (if (0 : Int) < l.getD k 0 then 0 else l.getD k 0)) := rfl
      generalize l.getD k 0 = x at *
      generalize belowTo l k = v at *
      by_cases hx : x < 0
      · rw [if_neg (by omega)] at hst
        go_wp2
        go_round
        case rel => exact ⟨k + 1, by omega, by go_num, by rw [hst.out]⟩
        case measure => simp [intOf]; omega
      · have hst2 : Hid (belowTo l (k + 1) = v) := by
          rw [hst.out]; unfold Hid; split <;> omega
        go_wp2
        go_round
        case rel => exact ⟨k + 1, by omega, by go_num, by rw [hst2.out]⟩
        case measure => simp [intOf]; omega
    · obtain rfl : k = m := by omega
      go_wp2
      go_ret
      exact ⟨ret_int hfin.out.symm, rfl⟩
end Go.Proofs.Ytpehhbiodmgjeaa
