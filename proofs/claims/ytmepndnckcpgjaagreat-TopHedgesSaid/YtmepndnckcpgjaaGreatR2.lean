/- Walks: bed.Rows of 3 crops, nothing sown. -/
import Derived.Test.YtmepndnckcpgjaaGreatR1
import Derived.Test.YtmepndnckcpgjaaGreatPlain4
namespace Go.Proofs.YtmepndnckcpgjaaGreat
open Go.RowKit
/-! ### plain -/
def lowN (m : Nat) : Nat := m - (m &&& (m - 1))
theorem low_and8 : ∀ m : Nat, m < 8 → 0 < m → bits .and .i64 (m : Int) (-(m : Int)) = ((lowN m : Nat) : Int) := by decide +kernel
theorem low_lt8 : ∀ m : Nat, m < 8 → lowN m < 8 ∧ m &&& (m - 1) < 8 := by decide
theorem or_lt8 : ∀ a : Nat, a < 8 → ∀ b : Nat, b < 8 → a ||| b < 8 := by decide
/-- the ways, as a table: k left, those used. -/
def wayT (k used : Nat) : Nat := if k = 0 then 1 else if k = 1 then (if used = 7 then 0 else if used = 3 ∨ used = 5 ∨ used = 6 then 1 else if used = 0 then 3 else 2) else if k = 2 then (if used = 7 ∨ used = 3 ∨ used = 5 ∨ used = 6 then 0 else if used = 0 then 6 else 2) else (if used = 0 then 6 else 0)
/-- what is left of a sum. -/
def sumT (k used : Nat) : Nat → Nat → Nat
  | 0, _ => 0
  | f + 1, m => if m = 0 then 0 else wayT k (used ||| lowN m) + sumT k used f (m &&& (m - 1))
theorem wayT_sum : ∀ k, k < 3 → ∀ used, used < 8 → wayT (k + 1) used = sumT k used 4 (nd 7 used) := by decide
theorem sumT_step : ∀ k, k < 3 → ∀ used, used < 8 → ∀ m, m < 8 → 0 < m → sumT k used 4 m = wayT k (used ||| lowN m) + sumT k used 4 (m &&& (m - 1)) := by decide
theorem sumT_small : ∀ k, k < 3 → ∀ used, used < 8 → ∀ m, m < 8 → sumT k used 4 m ≤ 100 := by decide
section
variable (A : Option Addr) (c : Nat)
def WayC (k : Nat) : Prop := ∀ (j used : Nat) (w : World), j + k = 3 → used < 8 → Ints w A 3 [7, 7, 7] →
  Calls Tryz.prog 58 #[.int .i64 3, .slice A 3 c, .int .i64 (j : Int), .int .i64 (used : Int)] w fun e w' => e = .returned (.int .i64 (wayT k used : Int)) ∧ w = w'
set_option maxRecDepth 100000 in
set_option maxHeartbeats 2000000 in
theorem f58_end : WayC A c 0 := by
  intro j used w hj hu hi
  obtain rfl : j = 3 := by omega
  have HW : Hid (wayT 0 used = 1) := rfl
  clear hi hj
  go_enter Tryz.func58, Tryz.ntmps58
  go_wp2
  go_ret
  exact ⟨by rw [HW.out]; rfl, rfl⟩
set_option maxRecDepth 100000 in
set_option maxHeartbeats 2000000 in
theorem f58_step (k : Nat) (hk : k < 3) (ih : WayC A c k) : WayC A c (k + 1) := by
  intro j used w hj hu hi
  have hjn : j < 3 := by omega
  obtain ⟨b, o, rfl, hc⟩ := hi.at_ hjn
  have e : ([7, 7, 7] : List Int).getD j 0 = 7 := by
    have h : j = 0 ∨ j = 1 ∨ j = 2 := by omega
    rcases h with rfl | rfl | rfl <;> rfl
  rw [e] at hc
  have HW : Hid (wayT (k + 1) used = sumT k used 4 (nd 7 used)) := Lib.hid (wayT_sum k hk used hu)
  have HST : Hid (∀ m, m < 8 → 0 < m → sumT k used 4 m = wayT k (used ||| lowN m) + sumT k used 4 (m &&& (m - 1))) := Lib.hid (sumT_step k hk used hu)
  have HSM : Hid (∀ m, m < 8 → sumT k used 4 m ≤ 100) := Lib.hid (sumT_small k hk used hu)
  have hnd : nd 7 used < 8 := nd_le _ _ 3 (by decide)
  have hb1 : bits .andNot .i64 (7 : Int) (used : Int) = ((nd 7 used : Nat) : Int) := bits_andNot_nat 7 used (by omega) (by omega)
  have hjq : ((j : Int) == 3) = false := by simp; omega
  have hjq2 : (j == 3) = false := by simp; omega
  have j0 : (0 : Int) ≤ (j : Int) := by omega
  have jn : (j : Int) < 3 := by omega
  have IH : Hid (∀ u : Nat, u < 8 → Calls Tryz.prog 58 #[.int .i64 3, .slice (some ⟨b, o, none⟩) 3 c, .int .i64 ((j : Int) + 1), .int .i64 (u : Int)] w fun e w' => e = .returned (.int .i64 (wayT k u : Int)) ∧ w = w') := Lib.hid fun u hu => ih (j + 1) u w (by omega) hu hi
  obtain ⟨M, hM⟩ : ∃ z, z = nd 7 used := ⟨_, rfl⟩
  obtain ⟨T, hT⟩ : ∃ z, z = wayT (k + 1) used := ⟨_, rfl⟩
  rw [← hM] at hb1 hnd HW
  rw [← hT] at HW ⊢
  have hT1 : T ≤ 100 := by rw [HW.out]; exact HSM.out M hnd
  clear hi ih hM hT hj e
  go_enter Tryz.func58, Tryz.ntmps58
  go_wp2
  go_loop [9, 10] (fun si mi => ∃ S m : Nat, si = .int .i64 (S : Int) ∧ mi = .int .i64 (m : Int) ∧ m < 8 ∧ Hid (S + sumT k used 4 m = T)) (fun _ mi => (intOf mi).toNat)
  case atStart => exact ⟨0, M, rfl, rfl, hnd, by rw [Nat.zero_add]; exact HW.out.symm⟩
  case round => as_aux_lemma =>
    obtain ⟨S, m, rfl, rfl, hm, hS⟩ := hrel
    by_cases hm0 : 0 < m
    · have hst := HST.out m hm hm0
      obtain ⟨l1, l2⟩ := low_lt8 m hm
      obtain ⟨P, hP⟩ : ∃ z, z = lowN m := ⟨_, rfl⟩
      have a1 := low_and8 m hm hm0
      rw [← hP] at a1 l1 hst
      obtain ⟨U, hU⟩ : ∃ z, z = used ||| P := ⟨_, rfl⟩
      have hU8 : U < 8 := by rw [hU]; exact or_lt8 _ hu _ l1
      have a2 : bits .or .i64 (used : Int) (P : Int) = (U : Int) := by rw [hU]; exact bits_or_nat _ _ (by omega) (by omega)
      obtain ⟨m2, hm2⟩ : ∃ z, z = m &&& (m - 1) := ⟨_, rfl⟩
      have e1 : (m : Int) - 1 = ((m - 1 : Nat) : Int) := by omega
      have a3 : bits .and .i64 (m : Int) ((m : Int) - 1) = (m2 : Int) := by rw [e1, hm2]; exact bits_and_nat _ _ (by omega) (by omega)
      have a4 : IntKind.i64.wrap (-(m : Int)) = -(m : Int) := IntWalk.i64_in _ (by omega)
      have hm2m : m2 < m := by rw [hm2]; have : m &&& (m - 1) ≤ m - 1 := Nat.and_le_right; omega
      have K := Lib.hid (IH.out U hU8)
      obtain ⟨V, hV⟩ : ∃ z, z = wayT k U := ⟨_, rfl⟩
      rw [← hV] at K
      have HS2 : Hid (S + V + sumT k used 4 m2 = T) := Lib.hid (by
        have h := hS.out
        rw [hst, ← hU, ← hV, ← hm2] at h
        omega)
      have hSV : S + V ≤ 100 := by have h1 := HS2.out; omega
      rw [← hm2] at l2
      have m0 : (0 : Int) < (m : Int) := by omega
      have hq : decide (0 < m) = true := decide_eq_true hm0
      clear hst l1 hP hU hm2 e1 hV hS
      go_wp2_with fail
      refine K.out.mono ?_
      rintro e w1 ⟨rfl, rfl⟩
      go_wp2
      go_round
      case rel => exact ⟨S + V, m2, by go_num, rfl, by omega, HS2.out⟩
      case measure => simp [intOf]; omega
    · obtain rfl : m = 0 := by omega
      have HT : Hid (S = T) := Lib.hid (by have h := hS.out; have e : sumT k used 4 0 = 0 := rfl; rw [e] at h; omega)
      clear hS
      go_wp2
      go_ret
      exact ⟨by rw [← HT.out]; rfl, rfl⟩
theorem f58_all : ∀ k, k ≤ 3 → WayC A c k
  | 0, _ => f58_end A c
  | k + 1, h => f58_step A c k (by omega) (f58_all k (by omega))
end
set_option maxRecDepth 100000 in
set_option maxHeartbeats 2000000 in
/-- slices.IndexFunc at no rows -/
theorem f122_none (c : Nat) (v : Value) (w : World) : Calls Tryz.prog 122 #[.slice none 0 c, v] w fun e w' => e = .returned (.int .i64 (-1)) ∧ w = w' := by
  go_enter Tryz.func122, Tryz.ntmps122
  go_wp2
  go_loop [8] (fun i => i = .int .i64 0) (fun _ => 0)
  case atStart => exact rfl
  case round => as_aux_lemma =>
    obtain rfl := hrel
    go_wp2
    go_ret
    exact ⟨rfl, rfl⟩
theorem f87_none (c : Nat) (v : Value) (w : World) : Calls Tryz.prog 87 #[.slice none 0 c, v] w fun e w' => e = .returned (.bool false) ∧ w = w' := by
  go_enter Tryz.func87, Tryz.ntmps87
  go_wp2_with fail
  refine (f122_none c v w).mono ?_
  rintro e w1 ⟨rfl, rfl⟩
  go_wp2
  go_ret
  exact ⟨rfl, rfl⟩
set_option maxRecDepth 100000 in
set_option maxHeartbeats 2000000 in
/-- bed.clash at no rows -/
theorem f90_none (w : World) : Calls Tryz.prog 90 #[.slice none 0 0] w fun e w' => e = .returned (.tuple #[.int .i64 0, .int .i64 0, .bool false]) ∧ w = w' := by
  go_enter Tryz.func90, Tryz.ntmps90
  go_wp2
  go_loop [12] (fun i => i = .int .i64 0) (fun _ => 0)
  case atStart => exact rfl
  case round => as_aux_lemma =>
    obtain rfl := hrel
    go_wp2
    refine bodyPost_ret (results_tmp3 rfl _ _ _) rfl ?_
    exact ⟨rfl, rfl⟩
set_option maxRecDepth 100000 in
set_option maxHeartbeats 2000000 in
/-- bed.start at no rows -/
theorem f57_none (w : World) : Calls Tryz.prog 57 #[.int .i64 3, .slice none 0 0] w fun e w' => e = .returned (.bool true) ∧ Below w.heap.size w w' := by
  have hmf : ∀ (fn : Fn) (first cap : Array Value) (w : World), (Instr.makeFunc fn first cap).run Tryz.prog w = .ok (.func fn first cap) w := fun _ _ _ _ => rfl
  have b0 := Lib.hid (below_alloc w (.cells #[.int .i64 3] 3))
  go_enter Tryz.func57, Tryz.ntmps57
  go_wp2_with fail
  refine (f87_none 0 _ _).mono ?_
  rintro e w1 ⟨rfl, rfl⟩
  go_wp2_with fail
  refine (f90_none _).mono ?_
  rintro e w1 ⟨rfl, rfl⟩
  go_wp2
  go_ret
  exact ⟨rfl, b0.out⟩
set_option maxRecDepth 100000 in
set_option maxHeartbeats 2000000 in
/-- bed.opened at no rows -/
theorem f59_none (w : World) : Calls Tryz.prog 59 #[.int .i64 3, .slice none 0 0] w fun e w' => ∃ g, e = .returned (.slice (some ⟨g, 0, none⟩) 3 3) ∧ Own w' g [7, 7, 7] ∧ Below w.heap.size w w' := by
  have b0 := Lib.hid (below_alloc w (.cells #[.int .i64 7] 3))
  have hc : (w.alloc (.cells #[.int .i64 7] 3)).cell? ⟨w.heap.size, 0, none⟩ = some (.int .i64 7) := (cell_new w #[.int .i64 7] 3 0).trans rfl
  have K := Lib.hid (f63_one w.heap.size 3 7 (by omega) (by omega) (w.alloc (.cells #[.int .i64 7] 3)) hc)
  clear hc
  go_enter Tryz.func59, Tryz.ntmps59
  go_wp2_with fail
  refine K.out.mono ?_
  rintro e w1 ⟨g, rfl, ho, _, hb⟩
  have HO := Lib.hid ho
  have HB := Lib.hid (below_step b0.out hb)
  clear ho hb
  go_wp2
  go_loop [18] (fun i => i = .int .i64 0) (fun _ => 0)
  case atStart => exact rfl
  case round => as_aux_lemma =>
    obtain rfl := hrel
    go_wp2
    go_ret
    exact ⟨g, rfl, HO.out, HB.out⟩
set_option maxRecDepth 100000 in
set_option maxHeartbeats 2000000 in
/-- bed.Rows of 3 crops, nothing sown -/
theorem f41r_none (w : World) : Calls Tryz.prog 41 #[.int .i64 3, .slice none 0 0] w fun e w' => e = .returned (.tuple #[.int .i64 6, .int .i64 0]) ∧ Below w.heap.size w w' := by
  go_enter Tryz.func41, Tryz.ntmps41
  go_wp2_with fail
  refine (f57_none w).mono ?_
  rintro e w1 ⟨rfl, hb⟩
  have HB := Lib.hid hb
  clear hb
  go_wp2_with fail
  refine (f59_none w1).mono ?_
  rintro e w2 ⟨g, rfl, ho, hb⟩
  have HB2 := Lib.hid (below_step HB.out hb)
  have K : Hid (Calls Tryz.prog 58 #[.int .i64 3, .slice (some ⟨g, 0, none⟩) 3 3, .int .i64 0, .int .i64 0] w2 fun e w' => e = .returned (.int .i64 6) ∧ w2 = w') := Lib.hid (f58_all (some ⟨g, 0, none⟩) 3 3 (by omega) 0 0 w2 (by omega) (by omega) (ho.ints (by simp)))
  clear ho hb
  go_wp2_with fail
  refine K.out.mono ?_
  rintro e w3 ⟨rfl, rfl⟩
  go_wp2
  go_ret2
  exact ⟨rfl, HB2.out⟩
end Go.Proofs.YtmepndnckcpgjaaGreat
