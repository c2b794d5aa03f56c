/- Walks: start and Start. -/
import Derived.Test.YtiodednhadnekaaDoorPlain15
namespace Go.Proofs.YtiodednhadnekaaDoor
open Go.RowKit Go.Deep
attribute [local go_sem ↓] Go.wp_at_zero Go.wp_at_succ

/-- bed.start$1$1 -/
theorem f103_any (x : Int) (a : Addr) (N : Nat) (w : World) (hc : w.cell? a = some (.int .i64 (N : Int))) :
    Calls Tryd.prog 103 #[.int .i64 x, .pointer (some a)] w fun e w' => e = .returned (.bool (outB 0 N x)) ∧ w = w' := by
  unfold outB
  by_cases h1 : x < 0
  · go_enter Tryd.func103, Tryd.ntmps103
    go_wp2
    go_ret
    exact ⟨ret_bool (by simp [h1]), rfl⟩
  · skip
    go_enter Tryd.func103, Tryd.ntmps103
    go_wp2
    go_ret
    exact ⟨ret_bool (by simp; omega), rfl⟩
theorem enter103 (args : Array Value) (w : World) : (callFunc 103 args).run Tryd.prog w = .ok (.enter 103 args) w := by simp [go_sem]
theorem enter102 (args : Array Value) (w : World) : (callFunc 102 args).run Tryd.prog w = .ok (.enter 102 args) w := by simp [go_sem]
set_option maxHeartbeats 400000 in
/-- bed.start$1 -/
theorem f102_any (B : Option Addr) (l : List Int) (d : Nat) (a : Addr) (N : Nat) (w : World) (hi : Ints w B l.length l) (hc : w.cell? a = some (.int .i64 (N : Int))) :
    Calls Tryd.prog 102 #[.slice B l.length d, .pointer (some a)] w fun e w' => e = .returned (.bool (badRow 0 N l)) ∧ w = w' := by
  have K := Lib.hid (f98_any B l.length d l 103 #[.pointer (some a)] (outB 0 N) w hi enter103 (fun k _ => f103_any _ a N w hc))
  have hl := hi.small
  by_cases h : l.length = N
  · have hq : ((l.length : Int) != (N : Int)) = false := by simp; omega
    have HF : Hid (badRow 0 N l = l.any (outB 0 N)) := by unfold badRow; rw [decide_eq_false (fun e => e h), Bool.false_or]; rfl
    generalize l.any (outB 0 N) = r at *
    generalize l.length = m at *
    clear hi h
    go_enter Tryd.func102, Tryd.ntmps102
    go_wp2_with fail
    refine K.out.mono ?_
    rintro e w' ⟨rfl, rfl⟩
    go_wp2
    go_ret
    exact ⟨ret_bool HF.out.symm, rfl⟩
  · have hq : ((l.length : Int) != (N : Int)) = true := by simp; omega
    have HF := Lib.hid (badRow_len (lo := 0) h)
    generalize l.length = m at *
    clear hi K h
    go_enter Tryd.func102, Tryd.ntmps102
    go_wp2
    go_ret
    exact ⟨ret_bool HF.out.symm, rfl⟩
set_option maxRecDepth 100000 in
set_option maxHeartbeats 1000000 in
/-- bed.start -/
theorem f84_any (N : Int) (A : Option Addr) (m c : Nat) (s : List (List Int)) (w : World) (hs : Beds w A m c s) :
    Calls Tryd.prog 84 #[.int .i64 N, .slice A m c] w fun e w' => e = .returned (.bool (startB N s)) ∧ Below w.heap.size w w' := by
  have hsm := hs.small
  have hl := hs.len
  have hb := Lib.hid (below_alloc w (.cells #[.int .i64 N] 3))
  have hc := cell_new w #[.int .i64 N] 3 0
  simp at hc
  by_cases h1 : N < 1
  · have HF2 : Hid (startB N s = false) := Lib.hid (by unfold startB; rw [decide_eq_false (by omega : ¬ 1 ≤ N)]; rfl)
    clear hs hl
    go_enter Tryd.func84, Tryd.ntmps84
    go_wp2
    go_ret
    exact ⟨ret_bool HF2.out.symm, hb.out⟩
  by_cases h2 : 7 < N
  · have HF2 : Hid (startB N s = false) := Lib.hid (by unfold startB; rw [decide_eq_false (by omega : ¬ N ≤ 7), Bool.and_false]; rfl)
    clear hs hl
    go_enter Tryd.func84, Tryd.ntmps84
    go_wp2
    go_ret
    exact ⟨ret_bool HF2.out.symm, hb.out⟩
  obtain ⟨n, rfl⟩ := nat_of N (by omega)
  by_cases h3 : n < m
  · have HF2 : Hid (startB (n : Int) s = false) := Lib.hid (by unfold startB; rw [decide_eq_false (by omega : ¬ (s.length : Int) ≤ (n : Int)), Bool.and_false]; rfl)
    have hq : decide (n < m) = true := decide_eq_true h3
    clear hs hl
    go_enter Tryd.func84, Tryd.ntmps84
    go_wp2
    go_ret
    exact ⟨ret_bool HF2.out.symm, hb.out⟩
  have HF : Hid (startB (n : Int) s = (!s.any (badRow 0 n) && !clB s)) := Lib.hid (by
    unfold startB
    rw [decide_eq_true (by omega : 1 ≤ (n : Int)), decide_eq_true (by omega : (n : Int) ≤ 7), decide_eq_true (by omega : (s.length : Int) ≤ (n : Int))]
    simp)
  have hq : decide (n < m) = false := decide_eq_false h3
  have K := Lib.hid (f91_any A m c s 102 #[.pointer (some ⟨w.heap.size, 0, none⟩)] (badRow 0 n) (w.alloc (.cells #[.int .i64 (n : Int)] 3)) (hs.below (below_alloc _ _)) enter102 (fun k _ B d x hi => (f102_any B _ d ⟨w.heap.size, 0, none⟩ n ((w.alloc (.cells #[.int .i64 (n : Int)] 3)).drewN x) (hi.drewN x) (cell_new w _ 3 0)).mono fun e w' h => ⟨h.1, x, h.2.symm⟩))
  cases hany : s.any (badRow 0 n)
  · have hrow : ∀ i, i < m → (s.getD i []).length = n := fun i hi => (badRow_false.1 (anyBad_false.1 hany i (by omega))).1
    have K71 : Hid (∀ W, Below w.heap.size w W → Calls Tryd.prog 71 #[.slice A m c] W fun e w' => e = .returned (.tuple #[.int .i64 (clR s), .int .i64 (clC s), .bool (clB s)]) ∧ Below W.heap.size W w') := Lib.hid fun W h => f71_any A m c n s W (hs.below h) hrow (by omega)
    have HF2 : Hid (startB (n : Int) s = !clB s) := Lib.hid (by rw [HF.out, hany]; rfl)
    rw [hany] at K
    generalize clB s = r at *
    generalize clR s = r1 at *
    generalize clC s = r2 at *
    clear hs hl hrow hany
    go_enter Tryd.func84, Tryd.ntmps84
    go_wp2_with fail
    refine K.out.mono ?_
    rintro e w' ⟨rfl, q, rfl⟩
    have hb2 := Lib.hid (below_drewN hb.out q)
    go_wp2_with fail
    refine (K71.out _ hb2.out).mono ?_
    rintro e w3 ⟨rfl, hb3⟩
    have HB3 := Lib.hid (below_step hb2.out hb3)
    clear hb3
    go_wp2
    go_ret
    exact ⟨ret_bool HF2.out.symm, HB3.out⟩
  · have HF2 : Hid (startB (n : Int) s = false) := Lib.hid (by rw [HF.out, hany]; rfl)
    rw [hany] at K
    clear hs hl hany
    go_enter Tryd.func84, Tryd.ntmps84
    go_wp2_with fail
    refine K.out.mono ?_
    rintro e w' ⟨rfl, q, rfl⟩
    have hb2 := Lib.hid (below_drewN hb.out q)
    go_wp2
    go_ret
    exact ⟨ret_bool HF2.out.symm, hb2.out⟩
set_option maxRecDepth 100000 in
set_option maxHeartbeats 2000000 in
/-- dibberref01.Start -/
theorem f49_any (N : Int) (A : Option Addr) (m c : Nat) (b : List (List Int)) (w : World) (hs : Beds w A m c b) :
    Calls Tryd.prog 49 #[.int .i64 N, .slice A m c] w fun e w' => e = .returned (.bool (startB N b)) ∧ w = w' := by
  have hl := hs.small
  have hbl := hs.len
  by_cases h1 : N < 1
  · have HF2 : Hid (startB N b = false) := Lib.hid (by unfold startB; rw [decide_eq_false (by omega : ¬ 1 ≤ N)]; rfl)
    clear hs hbl
    go_enter Tryd.func49, Tryd.ntmps49
    go_wp2
    go_ret
    exact ⟨ret_bool HF2.out.symm, rfl⟩
  by_cases h2 : 7 < N
  · have HF2 : Hid (startB N b = false) := Lib.hid (by unfold startB; rw [decide_eq_false (by omega : ¬ N ≤ 7), Bool.and_false]; rfl)
    clear hs hbl
    go_enter Tryd.func49, Tryd.ntmps49
    go_wp2
    go_ret
    exact ⟨ret_bool HF2.out.symm, rfl⟩
  obtain ⟨n, rfl⟩ := nat_of N (by omega)
  by_cases h3 : n < m
  · have HF2 : Hid (startB (n : Int) b = false) := Lib.hid (by unfold startB; rw [decide_eq_false (by omega : ¬ (b.length : Int) ≤ (n : Int)), Bool.and_false]; rfl)
    have hq : decide (n < m) = true := decide_eq_true h3
    clear hs hbl
    go_enter Tryd.func49, Tryd.ntmps49
    go_wp2
    go_ret
    exact ⟨ret_bool HF2.out.symm, rfl⟩
  have HF : Hid (startB (n : Int) b = (!b.any (badRow 0 n) && !clB b)) := Lib.hid (by
    unfold startB
    rw [decide_eq_true (by omega : 1 ≤ (n : Int)), decide_eq_true (by omega : (n : Int) ≤ 7), decide_eq_true (by omega : (b.length : Int) ≤ (n : Int))]
    simp)
  have hq : decide (n < m) = false := decide_eq_false h3
  have HS := Lib.hid hs
  have HL := Lib.hid hbl
  have HBAD : Hid (∀ r, r < m → badRow 0 n (b.getD r []) = true → startB (n : Int) b = false) := Lib.hid fun r hr h => by rw [HF.out, anyBad_true (by rw [HL.out]; exact hr) h]; rfl
  have HGOOD : Hid ((∀ r, r < m → badRow 0 n (b.getD r []) = false) → startB (n : Int) b = !clB b) := Lib.hid fun h => by rw [HF.out, anyBad_false.2 (fun r hr => h r (by rw [HL.out] at hr; exact hr))]; rfl
  have K73 : Hid ((∀ r, r < m → badRow 0 n (b.getD r []) = false) → Calls Tryd.prog 73 #[.slice A m c] w fun e w' => e = .returned (.tuple #[.int .i64 (clR b), .int .i64 (clC b), .bool (clB b)]) ∧ w = w') := Lib.hid fun h => f73_any A m c n b w hs (fun i hi => (badRow_false.1 (h i hi)).1) (by omega)
  clear hs hbl
  go_enter Tryd.func49, Tryd.ntmps49
  go_wp2
  go_loop [5] (fun i => ∃ r : Nat, r ≤ m ∧ i = .int .i64 (r : Int) ∧ Hid (∀ j, j < r → badRow 0 n (b.getD j []) = false)) (fun i => m - (intOf i).toNat)
  case atStart => exact ⟨0, by omega, rfl, fun j hj => absurd hj (by omega)⟩
  case round => as_aux_lemma =>
    obtain ⟨r, hr, rfl, hin⟩ := hrel
    by_cases hlr : r < m
    · obtain ⟨g, o, rfl, B, d, hc, _, _, hi⟩ := HS.out.at_ hlr
      have HB := Lib.hid (HBAD.out r hlr)
      have HN : Hid (badRow 0 n (b.getD r []) = false → ∀ j, j < r + 1 → badRow 0 n (b.getD j []) = false) := fun h j hj => by
        rcases Nat.lt_or_ge j r with h1 | h1
        · exact hin.out j h1
        · obtain rfl : j = r := by omega
          exact h
      have hsm := hi.small
      generalize b.getD r [] = l at *
      clear hin
      by_cases hll : l.length = n
      · rw [hll] at hc hi
        have HI := Lib.hid hi
        have HOUT : Hid (∀ j, j < n → outB 0 n (l.getD j 0) = true → startB (n : Int) b = false) := fun j hj h => HB.out (badRow_out (by rw [hll]; exact hj) h)
        have HIN : Hid ((∀ j, j < n → outB 0 n (l.getD j 0) = false) → badRow 0 n l = false) := fun h => badRow_false.2 ⟨hll, fun j hj => by
          have := h j hj
          unfold outB at this
          simp only [Bool.or_eq_false_iff, decide_eq_false_iff_not] at this
          omega⟩
        have hq : ((n : Int) != (n : Int)) = false := by simp
        have r0 : (0 : Int) ≤ (r : Int) := by omega
        have rn : (r : Int) < (m : Int) := by omega
        clear hi hll HB
        go_wp2
        go_loop [6] (fun i => ∃ k : Nat, k ≤ n ∧ i = .int .i64 (k : Int) ∧ Hid (∀ j, j < k → outB 0 n (l.getD j 0) = false)) (fun i => n - (intOf i).toNat)
        case atStart => exact ⟨0, by omega, rfl, fun j hj => absurd hj (by omega)⟩
        case round => as_aux_lemma =>
          obtain ⟨k, hk, rfl, hin⟩ := hrel
          by_cases hlk : k < n
          · obtain ⟨g2, o2, rfl, hc2⟩ := HI.out.at_ hlk
            have HO := Lib.hid (HOUT.out k hlk)
            have HN2 : Hid (outB 0 n (l.getD k 0) = false → ∀ j, j < k + 1 → outB 0 n (l.getD j 0) = false) := fun h j hj => by
              rcases Nat.lt_or_ge j k with h1 | h1
              · exact hin.out j h1
              · obtain rfl : j = k := by omega
                exact h
            generalize l.getD k 0 = x at *
            clear hin
            by_cases c1 : x < 0
            · have HQ : Hid (startB (n : Int) b = false) := HO.out (by unfold outB; rw [decide_eq_true c1, Bool.true_or])
              go_wp2
              go_ret
              exact ⟨ret_bool HQ.out.symm, rfl⟩
            · by_cases c2 : (n : Int) ≤ x
              · have HQ : Hid (startB (n : Int) b = false) := HO.out (by unfold outB; rw [decide_eq_true c2, Bool.or_true])
                go_wp2
                go_ret
                exact ⟨ret_bool HQ.out.symm, rfl⟩
              · have HQ := Lib.hid (HN2.out (by unfold outB; rw [decide_eq_false c1, decide_eq_false c2]; rfl))
                go_wp2
                go_round
                case rel => exact ⟨k + 1, by omega, by go_num, HQ.out⟩
                case measure => simp [intOf]; omega
          · obtain rfl : k = n := by omega
            have HQ := Lib.hid (HN.out (HIN.out hin.out))
            go_wp2
            go_round
            case rel => exact ⟨r + 1, by omega, by go_num, HQ.out⟩
            case measure => simp [intOf]; omega
      · have hq : ((l.length : Int) != (n : Int)) = true := by simp; omega
        have HQ := Lib.hid (HB.out (badRow_len hll))
        generalize l.length = u at *
        clear hi hll
        go_wp2
        go_ret
        exact ⟨ret_bool HQ.out.symm, rfl⟩
    · obtain rfl : r = m := by omega
      have HQ := Lib.hid (HGOOD.out hin.out)
      have K := Lib.hid (K73.out hin.out)
      generalize clB b = z at *
      generalize clR b = z1 at *
      generalize clC b = z2 at *
      clear hin
      go_wp2_with fail
      refine K.out.mono ?_
      rintro e w' ⟨rfl, rfl⟩
      go_wp2
      go_ret
      exact ⟨ret_bool HQ.out.symm, rfl⟩
end Go.Proofs.YtiodednhadnekaaDoor
