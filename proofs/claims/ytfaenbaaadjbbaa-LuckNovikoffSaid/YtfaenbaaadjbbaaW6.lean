/- Walks: goals, Goal. -/
import Derived.Test.YtfaenbaaadjbbaaW5
import Derived.Test.YtfaenbaaadjbbaaPlain4
namespace Go.Proofs.Ytfaenbaaadjbbaa
open Go.RowKit

def outG (k x : Int) : Bool := decide (x < 0) || decide (k * 60 < x)
theorem goalOk_out (k : Int) (goal : List Int) : goalOk k goal = (decide (1 ≤ k ∧ k ≤ 10 ∧ goal.length = 2 ^ k.toNat) && !goal.any (outG k)) := by
  unfold goalOk
  congr 1
  induction goal with
  | nil => rfl
  | cons a l ih =>
    rw [List.all_cons, List.any_cons, ih, Bool.not_or]
    congr 1
    unfold outG
    by_cases h1 : a < 0
    · rw [decide_eq_true h1, decide_eq_false (by omega)]; rfl
    · by_cases h2 : k * 60 < a
      · rw [decide_eq_true h2, decide_eq_false (by omega), Bool.or_true]; rfl
      · rw [decide_eq_false h1, decide_eq_false h2, decide_eq_true (by omega)]; rfl
theorem goalOk_no {k : Int} {goal : List Int} (h : ¬ (1 ≤ k ∧ k ≤ 10 ∧ goal.length = 2 ^ k.toNat)) : goalOk k goal = false := by
  unfold goalOk; rw [decide_eq_false h]; rfl
theorem goalOk_facts {k : Int} {goal : List Int} (h : goalOk k goal = true) : ∃ m : Nat, k = m ∧ 1 ≤ m ∧ m ≤ 10 ∧ goal.length = 2 ^ m ∧ ∀ i, 0 ≤ goal.getD i 0 ∧ goal.getD i 0 ≤ m * 60 := by
  unfold goalOk at h
  rw [Bool.and_eq_true, decide_eq_true_eq, List.all_eq_true] at h
  obtain ⟨⟨h1, h2, h3⟩, h4⟩ := h
  obtain ⟨m, rfl⟩ := nat_of k (by omega)
  rw [Int.toNat_natCast] at h3
  refine ⟨m, rfl, by omega, by omega, h3, fun i => ?_⟩
  by_cases hi : i < goal.length
  · have := of_decide_eq_true (h4 _ (List.getElem_mem hi))
    simpa [List.getD_eq_getElem?_getD, hi] using this
  · simp [List.getD_eq_getElem?_getD, hi]; omega
/-- luck.half -/
theorem f79_any (x : Int) (w : World) : Calls Try.prog 79 #[.int .i64 x] w fun e w' => e = .returned (.int .i64 (x / 2)) ∧ w = w' := by
  go_enter Try.func79, Try.ntmps79
  go_wp2
  go_ret
  exact ⟨rfl, rfl⟩
/-- luck.goals$1 -/
theorem f78_any (x k : Int) (g : Nat) (w : World) (hk1 : 1 ≤ k) (hk : k ≤ 10) (hc : w.cell? ⟨g, 0, none⟩ = some (.int .i64 k)) : Calls Try.prog 78 (#[.int .i64 x] ++ #[.pointer (some ⟨g, 0, none⟩)]) w fun e w' => e = .returned (.bool (outG k x)) ∧ w = w' := by
  unfold outG
  show Calls Try.prog 78 #[.int .i64 x, .pointer (some ⟨g, 0, none⟩)] w _
  by_cases h1 : x < 0
  · go_enter Try.func78, Try.ntmps78
    go_wp2
    go_ret
    simp [h1]
  · have h2 : decide (x < 0) = false := decide_eq_false h1
    go_enter Try.func78, Try.ntmps78
    go_wp2
    go_ret
    exact ⟨by simp, rfl⟩
theorem enter78 (args : Array Value) (w : World) : (callFunc 78 args).run Try.prog w = .ok (.enter 78 args) w := by
  simp [go_sem]
set_option maxHeartbeats 1000000 in
/-- luck.goals -/
theorem f55_any (k : Int) (A : Option Addr) (n c : Nat) (goal : List Int) (w : World) (hs : Ints w A n goal) :
    Calls Try.prog 55 #[.int .i64 k, .slice A n c] w fun e w' => e = .returned (.bool (goalOk k goal)) ∧ Below w.heap.size w w' := by
  have hsm := hs.small
  have hB := Lib.hid (below_alloc w (.cells #[.int .i64 k] 3))
  by_cases t1 : k < 1
  · have hfin := Lib.hid (goalOk_no (k := k) (goal := goal) (by omega))
    go_enter Try.func55, Try.ntmps55
    go_wp2
    go_ret
    exact ⟨ret_bool hfin.out.symm, hB.out⟩
  by_cases t2 : 10 < k
  · have hfin := Lib.hid (goalOk_no (k := k) (goal := goal) (by omega))
    go_enter Try.func55, Try.ntmps55
    go_wp2
    go_ret
    exact ⟨ret_bool hfin.out.symm, hB.out⟩
  obtain ⟨m, rfl⟩ := nat_of k (by omega)
  obtain ⟨N, hN, hshl⟩ := shl_one m (by omega)
  have hN2 : N ≤ 1024 := by rw [hN]; exact pow10 m (by omega)
  by_cases t3 : n = N
  · subst t3
    have hany : Hid (goalOk m goal = !goal.any (outG m)) := by
      rw [goalOk_out, decide_eq_true ⟨by omega, by omega, by rw [hs.len, hN, Int.toNat_natCast]⟩]; rfl
    have k72 : Hid (Calls Try.prog 72 #[.slice A n c, .func (.func 78) #[] #[.pointer (some ⟨w.heap.size, 0, none⟩)]] (w.alloc (.cells #[.int .i64 (m : Int)] 3)) fun e w' => e = .returned (.bool (goal.any (outG m))) ∧ w.alloc (.cells #[.int .i64 (m : Int)] 3) = w') :=
      f72_any A n c goal 78 _ (outG m) _ (hs.below hB.out) enter78 (fun _ _ => f78_any _ m w.heap.size _ (by omega) (by omega) (cell_new _ _ _ _))
    clear hs hN
    go_enter Try.func55, Try.ntmps55
    go_wp2_with fail
    refine k72.out.mono ?_
    rintro e w' ⟨rfl, rfl⟩
    go_wp2
    go_ret
    exact ⟨ret_bool hany.out.symm, hB.out⟩
  · have hfin := Lib.hid (goalOk_no (k := m) (goal := goal) (by rw [hs.len, Int.toNat_natCast]; omega))
    have hq : ((n : Int) == (N : Int)) = false := by simp; omega
    clear hN hs t3
    go_enter Try.func55, Try.ntmps55
    go_wp2
    go_ret
    exact ⟨ret_bool hfin.out.symm, hB.out⟩
set_option maxHeartbeats 1000000 in
/-- dibberref05.Goal -/
theorem f29_any (k : Int) (A : Option Addr) (n c : Nat) (goal : List Int) (w : World) (hs : Ints w A n goal) :
    Calls Try.prog 29 #[.int .i64 k, .slice A n c] w fun e w' => e = .returned (.bool (goalOk k goal)) ∧ w = w' := by
  have hsm := hs.small
  by_cases t1 : k < 1
  · have hfin := Lib.hid (goalOk_no (k := k) (goal := goal) (by omega))
    go_enter Try.func29, Try.ntmps29
    go_wp2
    go_ret
    exact ⟨ret_bool hfin.out.symm, rfl⟩
  by_cases t2 : 10 < k
  · have hfin := Lib.hid (goalOk_no (k := k) (goal := goal) (by omega))
    go_enter Try.func29, Try.ntmps29
    go_wp2
    go_ret
    exact ⟨ret_bool hfin.out.symm, rfl⟩
  obtain ⟨m, rfl⟩ := nat_of k (by omega)
  obtain ⟨N, hN, hshl⟩ := shl_one m (by omega)
  have hN2 : N ≤ 1024 := by rw [hN]; exact pow10 m (by omega)
  by_cases t3 : n = N
  · subst t3
    have hany : Hid (goalOk m goal = !goal.any (outG m)) := by
      rw [goalOk_out, decide_eq_true ⟨by omega, by omega, by rw [hs.len, hN, Int.toNat_natCast]⟩]; rfl
    have HL := Lib.hid hs.len
    have HS := Lib.hid hs
    have hq : ((n : Int) != (n : Int)) = false := by simp
    clear hs hN
    go_enter Try.func29, Try.ntmps29
    go_wp2
    go_loop [5] (fun i => ∃ j : Nat, j ≤ n ∧ i = .int .i64 (j : Int) ∧ (∀ a, a < j → outG m (goal.getD a 0) = false)) (fun i => n - (intOf i).toNat)
    case atStart => exact ⟨0, by omega, rfl, fun a ha => absurd ha (by omega)⟩
    case round =>
      obtain ⟨j, hj, rfl, hbef⟩ := hrel
      have HB := Lib.hid hbef
      clear hbef
      by_cases hlt : j < n
      · obtain ⟨b, off, rfl, hc⟩ := HS.out.at_ hlt
        have hbad : Hid (outG m (goal.getD j 0) = true → goalOk m goal = false) := fun h => by
          rw [hany.out]
          have : goal.any (outG m) = true := List.any_eq_true.2 ⟨goal[j]'(by rw [HL.out]; exact hlt), List.getElem_mem _, by
            simpa [List.getD_eq_getElem?_getD, show j < goal.length from by rw [HL.out]; exact hlt] using h⟩
          rw [this]; rfl
        generalize hx : goal.getD j 0 = x at *
        have HX := Lib.hid hx
        clear hx
        by_cases h1 : x < 0
        · have hf := Lib.hid (hbad.out (by simp [outG, h1]))
          go_wp2
          go_ret
          exact ⟨ret_bool hf.out.symm, rfl⟩
        by_cases h2 : (m : Int) * 60 < x
        · have hf := Lib.hid (hbad.out (by simp [outG, h2]))
          go_wp2
          go_ret
          exact ⟨ret_bool hf.out.symm, rfl⟩
        have hg : Hid (outG m x = false) := by simp [Hid, outG]; omega
        go_wp2
        go_round
        case rel => exact ⟨j + 1, by omega, by go_num, fun a ha => by
          rcases Nat.lt_or_ge a j with h | h
          · exact HB.out a h
          · obtain rfl : a = j := by omega
            rw [HX.out]; exact hg.out⟩
        case measure => simp [intOf]; omega
      · obtain rfl : j = n := by omega
        have hf : Hid (goalOk m goal = true) := by
          rw [hany.out]
          have : goal.any (outG m) = false := List.any_eq_false.2 fun x hx => by
            obtain ⟨a, ha, rfl⟩ := List.getElem_of_mem hx
            have := HB.out a (by rw [← HL.out]; exact ha)
            simpa [List.getD_eq_getElem?_getD, ha] using this
          rw [this]; rfl
        go_wp2
        go_ret
        exact ⟨ret_bool hf.out.symm, rfl⟩
  · have hfin := Lib.hid (goalOk_no (k := m) (goal := goal) (by rw [hs.len, Int.toNat_natCast]; omega))
    have hq : ((n : Int) != (N : Int)) = true := by simp; omega
    clear hN hs t3
    go_enter Try.func29, Try.ntmps29
    go_wp2
    go_ret
    exact ⟨ret_bool hfin.out.symm, rfl⟩
end Go.Proofs.Ytfaenbaaadjbbaa
