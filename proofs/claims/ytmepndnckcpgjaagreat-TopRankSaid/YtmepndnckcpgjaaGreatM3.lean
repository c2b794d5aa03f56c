/- Walks: slices.Repeat of one number. Walks: bed.Rows of 3 crops, nothing sown. Walks: turns of a round of 3 hours. Walks: the plan of one span. Words: a square of hours. Walks: the plans of one span, visited. Walks: Plans at one span. -/
import Derived.Test.YtmepndnckcpgjaaGreatF2
import Derived.Deep.RegionHeld3
import Derived.Laws.CopyOwn
import Derived.Test.YtmepndnckcpgjaaGreatPlain4
import Derived.BigRegion
import Derived.Deep.RegionHeld
import Derived.Deep.MidRow
import Derived.ArgAppend
import Derived.Defers
import Derived.WalkMore
import Derived.Deep.DeepCutAuto
namespace Go.Proofs.YtmepndnckcpgjaaGreat
open Go.RowKit

set_option maxHeartbeats 2000000 in
/-- math/bits.Mul64: 1 times a small number -/
theorem f107_one (n : Nat) (h1 : 1 ≤ n) (hn : n ≤ 7) (w : World) : Calls Tryz.prog 136 #[.int .u64 1, .int .u64 (n : Int)] w fun e w' => e = .returned (.tuple #[.int .u64 0, .int .u64 (n : Int)]) ∧ w = w' := by
  have h : n = 1 ∨ n = 2 ∨ n = 3 ∨ n = 4 ∨ n = 5 ∨ n = 6 ∨ n = 7 := by omega
  rcases h with rfl | rfl | rfl | rfl | rfl | rfl | rfl
  all_goals
    go_enter Tryz.func136, Tryz.ntmps136
    go_wp2
    go_ret2
    exact ⟨by rfl, rfl⟩
/-- math/bits.Mul: 1 times a small number -/
theorem f95_one (n : Nat) (h1 : 1 ≤ n) (hn : n ≤ 7) (w : World) : Calls Tryz.prog 125 #[.int .u64 1, .int .u64 (n : Int)] w fun e w' => e = .returned (.tuple #[.int .u64 0, .int .u64 (n : Int)]) ∧ w = w' := by
  have K := Lib.hid (f107_one n h1 hn w)
  go_enter Tryz.func125, Tryz.ntmps125
  go_wp2_with fail
  refine K.out.mono ?_
  rintro e w1 ⟨rfl, rfl⟩
  go_wp2
  go_ret2
  exact ⟨rfl, rfl⟩
/-- c times a number, and 0 behind. -/
def ones (y : Int) (c n : Nat) : List Value := List.replicate c (.int .i64 y) ++ List.replicate (n - c) (.int .i64 0)
theorem ones_len {y : Int} {c n : Nat} (_h : c ≤ n) : (ones y c n).length = n := by simp [ones]; omega
theorem ones_zero (y : Int) (n : Nat) : ones y 0 n = (List.replicate n (0 : Int)).map (Value.int .i64) := by simp [ones]
theorem ones_all (y : Int) (n : Nat) : ones y n n = (List.replicate n y).map (Value.int .i64) := by simp [ones]
theorem ones_splice {y : Int} {c m n : Nat} (_h : c + m ≤ n) : splice (ones y c n) c (List.replicate m (.int .i64 y)) = ones y (c + m) n := by
  unfold splice ones
  have e1 : (List.replicate c (Value.int .i64 y) ++ List.replicate (n - c) (Value.int .i64 0)).take c = List.replicate c (Value.int .i64 y) := by
    rw [List.take_append_of_le_length (by simp)]; simp
  have e2 : (List.replicate c (Value.int .i64 y) ++ List.replicate (n - c) (Value.int .i64 0)).drop (c + (List.replicate m (Value.int .i64 y)).length) = List.replicate (n - (c + m)) (Value.int .i64 0) := by
    rw [List.drop_append]
    simp
    first | done | omega | (congr 1; omega)
  rw [e1, e2, ← List.append_assoc, List.replicate_append_replicate]
theorem ones_get {y : Int} {c n j : Nat} (h : j < c) : (ones y c n)[j]? = some (.int .i64 y) := by
  unfold ones
  rw [List.getElem?_append_left (by simp; exact h)]
  simp [h]
set_option maxRecDepth 100000 in
set_option maxHeartbeats 4000000 in
/-- slices.Repeat of one number -/
theorem f63_one (h n : Nat) (y : Int) (hn1 : 1 ≤ n) (hn : n ≤ 7) (w : World) (hc : w.cell? ⟨h, 0, none⟩ = some (.int .i64 y)) :
    Calls Tryz.prog 91 #[.slice (some ⟨h, 0, none⟩) 1 1, .int .i64 (n : Int)] w fun e w' => ∃ g, e = .returned (.slice (some ⟨g, 0, none⟩) n n) ∧ Own w' g (List.replicate n y) ∧ w.heap.size ≤ g ∧ Below w.heap.size w w' := by
  have k84 := Lib.hid (f95_one n hn1 (by omega) w)
  have hmk := make_ints n (by omega) w
  obtain ⟨w2, hw2⟩ : ∃ w2, w2 = w.alloc (.cells ((List.replicate n (0 : Int)).map (Value.int .i64)).toArray 3) := ⟨_, rfl⟩
  rw [← hw2] at hmk
  have B2 : Hid (Below w.heap.size w w2) := by rw [hw2]; exact below_alloc _ _
  have R2 : Hid (w2.heap[w.heap.size]? = some (.cells (ones y 0 n).toArray 3 (0, 0))) := by rw [hw2, ones_zero]; exact heap_alloc_new w _
  have hc2 := (B2.out.cell (lt_of_cell hc)).trans hc
  have HC2 := Lib.hid hc2
  have hu1 : IntKind.u64.wrap (n : Int) = (n : Int) := by rw [IntKind.wrap_u64]; omega
  have hu2 : IntKind.i64.wrap (n : Int) = (n : Int) := IntWalk.i64_in _ (by omega)
  clear hw2 hc hc2
  go_enter Tryz.func91, Tryz.ntmps91
  go_wp2_with fail
  refine k84.out.mono ?_
  rintro e w1 ⟨rfl, rfl⟩
  go_wp2_with (refine wpList_copy_splice rfl (.tmp 31) (.tmp 32) 23 23 rfl 3 Tryz.underlying23 (by kernel_rfl) _ _ _ _ _ _ rfl rfl w.heap.size 0 (ones y 0 n) 3 R2.out (List.replicate 1 (.int .i64 y)) (by simp [Nat.min_def]; omega) (fun _ => ⟨rfl, _, rfl, fun j v hj => by
    have hj0 : j = 0 := by
      rcases Nat.eq_zero_or_pos j with h | h
      · exact h
      · rw [List.getElem?_eq_none (by simp; omega)] at hj; cases hj
    subst hj0
    simp at hj
    rw [← hj]
    exact HC2.out⟩) (by rw [ones_len (by omega)]; simp; omega) (fun v hv => by rw [List.mem_replicate] at hv; rw [hv.2]; rfl) w.heap.size w B2.out (Nat.le_refl _) ?_; intro w3 hr3 hb3)
  have R3 : Hid (w3.heap[w.heap.size]? = some (.cells (ones y 1 n).toArray 3 (0, 0))) := by
    have h2 := hr3.out
    rw [ones_splice (y := y) (c := 0) (m := 1) (by omega)] at h2
    exact h2
  have B3 := Lib.hid hb3
  clear hr3 hb3 R2 B2 HC2
  go_loopw [8] (fun c wr => ∃ q : Nat, 1 ≤ q ∧ q ≤ n ∧ c = .int .i64 (q : Int) ∧ Hid (wr.heap[w.heap.size]? = some (.cells (ones y q n).toArray 3 (0, 0))) ∧ Below w.heap.size w wr) (fun c _ => n - (intOf c).toNat)
  case atStart => exact ⟨1, by omega, by omega, rfl, R3, B3.out⟩
  case round => as_aux_lemma =>
    obtain ⟨q, hq1, hq, rfl, hR, hbel⟩ := hrel
    have HB := Lib.hid hbel
    by_cases hlt : q < n
    · obtain ⟨m, hm⟩ : ∃ m, m = Nat.min q (n - q) := ⟨_, rfl⟩
      have hm2 : m ≤ q ∧ m ≤ n - q ∧ 1 ≤ m := by
        have e : Nat.min q (n - q) = min q (n - q) := rfl
        rw [hm, e]; omega
      have HM := Lib.hid hm
      obtain ⟨m3, m4, m5⟩ := hm2
      have hsrc : Hid (∀ (W : World), W.heap = wr.heap → ∀ j v, (List.replicate m (Value.int .i64 y))[j]? = some v → W.cell? ((⟨w.heap.size, 0, none⟩ : Addr).add j) = some v) := fun W hW j v hj => by
        have hjm : j < m := by
          rcases Nat.lt_or_ge j m with h | h
          · exact h
          · rw [List.getElem?_eq_none (by simp; omega)] at hj; cases hj
        have hv : v = .int .i64 y := by simp [hjm] at hj; exact hj.symm
        rw [Go.WideShapes.add_plain, Nat.zero_add, cell_of_row W w.heap.size j _ 3 (0, 0) (by rw [hW]; exact hR.out), hv]
        simp [ones_get (show j < q by omega)]
      have hfit : Hid (q + (List.replicate m (Value.int .i64 y)).length ≤ (ones y q n).length) := by rw [ones_len hq, List.length_replicate]; unfold Hid; omega
      have h1c : Hid (∀ v ∈ List.replicate m (Value.int .i64 y), v.oneCell' = true) := fun v hv => by rw [List.mem_replicate] at hv; rw [hv.2]; rfl
      have hspl := Lib.hid (ones_splice (y := y) (c := q) (m := m) (n := n) (by omega))
      have hlenm : Hid ((List.replicate m (Value.int .i64 y)).length = m) := List.length_replicate
      have hgi : goInt (List.replicate m (Value.int .i64 y)).length = .int .i64 (m : Int) := by rw [List.length_replicate]; rfl
      have hwq : IntKind.i64.wrap ((q : Int) + (m : Int)) = ((q + m : Nat) : Int) := by rw [IntWalk.i64_in _ (by omega)]; simp
      have q0 : (0 : Int) ≤ (q : Int) := by omega
      have qn : (q : Int) ≤ (n : Int) := by omega
      have hne : ¬ (n = q) := by omega
      have hne2 : ¬ (q = n) := by omega
      clear hm hbel
      go_wp2_with fail
      go_region_held3 (fun _ => True) (trivial)
        ((refine step_copy_splice (by rfl) _ _ _ _ (by rfl) 3 Tryz.underlying23 (by kernel_rfl) _ _ _ _ _ _ (by rfl) (by rfl) w.heap.size q (ones y q n) 3 (by exact hR.out) (List.replicate m (.int .i64 y)) (by rw [hlenm.out]; exact HM.out) (fun _ => ⟨by rfl, _, by rfl, hsrc.out _ (by rfl)⟩) hfit.out h1c.out w.heap.size w (by first | exact HB.out | exact HB.out.drew) (Nat.le_refl _) ?_; intro w4 hr4 hb4))
      have HR4 : Hid (w4.heap[w.heap.size]? = some (.cells (ones y (q + m) n).toArray 3 (0, 0))) := by
        have h2 := hr4.out
        rw [hspl.out] at h2
        exact h2
      have HB4 := Lib.hid hb4
      clear hr4 hb4
      go_wp2
      go_roundw
      case rel => exact ⟨q + m, by omega, by omega, by go_num, HR4, HB4.out⟩
      case measure => simp [intOf]; omega
    · obtain rfl : q = n := by omega
      have hO : Hid (Own wr w.heap.size (List.replicate q y)) := by
        unfold Own
        rw [hR.out, ones_all]
        exact rfl
      clear hbel
      go_wp2
      go_ret
      exact ⟨w.heap.size, rfl, hO.out, Nat.le_refl _, HB.out⟩
end Go.Proofs.YtmepndnckcpgjaaGreat

namespace Go.Proofs.YtmepndnckcpgjaaGreat
open Go.RowKit
/-! ### plain -/
def lowN (m : Nat) : Nat := m - (m &&& (m - 1))
theorem low_and8 : ∀ m : Nat, m < 8 → 0 < m → bits .and .i64 (m : Int) (-(m : Int)) = ((lowN m : Nat) : Int) := by decide +kernel
theorem low_lt8 : ∀ m : Nat, m < 8 → lowN m < 8 ∧ m &&& (m - 1) < 8 := by decide
theorem or_lt8 : ∀ a : Nat, a < 8 → ∀ b : Nat, b < 8 → a ||| b < 8 := by decide
/-- the ways, as a table: k left, those used. -/
def wayT (k used : Nat) : Nat := if k = 0 then 1 else if k = 1 then (if used = 7 then 0 else if used = 3 ∨ used = 5 ∨ used = 6 then 1 else if used = 0 then 3 else 2) else if k = 2 then (if used = 7 ∨ used = 3 ∨ used = 5 ∨ used = 6 then 0 else if used = 0 then 6 else 2) else (if used = 0 then 6 else 0)
/-- what is left of a sum. -/
def sumT (k used : Nat) : Nat → Nat → Nat
  | 0, _ => 0
  | f + 1, m => if m = 0 then 0 else wayT k (used ||| lowN m) + sumT k used f (m &&& (m - 1))
theorem wayT_sum : ∀ k, k < 3 → ∀ used, used < 8 → wayT (k + 1) used = sumT k used 4 (nd 7 used) := by decide
theorem sumT_step : ∀ k, k < 3 → ∀ used, used < 8 → ∀ m, m < 8 → 0 < m → sumT k used 4 m = wayT k (used ||| lowN m) + sumT k used 4 (m &&& (m - 1)) := by decide
theorem sumT_small : ∀ k, k < 3 → ∀ used, used < 8 → ∀ m, m < 8 → sumT k used 4 m ≤ 100 := by decide
section
variable (A : Option Addr) (c : Nat)
def WayC (k : Nat) : Prop := ∀ (j used : Nat) (w : World), j + k = 3 → used < 8 → Ints w A 3 [7, 7, 7] →
  Calls Tryz.prog 58 #[.int .i64 3, .slice A 3 c, .int .i64 (j : Int), .int .i64 (used : Int)] w fun e w' => e = .returned (.int .i64 (wayT k used : Int)) ∧ w = w'
set_option maxRecDepth 100000 in
set_option maxHeartbeats 2000000 in
theorem f58_end : WayC A c 0 := by
  intro j used w hj hu hi
  obtain rfl : j = 3 := by omega
  have HW : Hid (wayT 0 used = 1) := rfl
  clear hi hj
  go_enter Tryz.func58, Tryz.ntmps58
  go_wp2
  go_ret
  exact ⟨by rw [HW.out]; rfl, rfl⟩
set_option maxRecDepth 100000 in
set_option maxHeartbeats 2000000 in
theorem f58_step (k : Nat) (hk : k < 3) (ih : WayC A c k) : WayC A c (k + 1) := by
  intro j used w hj hu hi
  have hjn : j < 3 := by omega
  obtain ⟨b, o, rfl, hc⟩ := hi.at_ hjn
  have e : ([7, 7, 7] : List Int).getD j 0 = 7 := by
    have h : j = 0 ∨ j = 1 ∨ j = 2 := by omega
    rcases h with rfl | rfl | rfl <;> rfl
  rw [e] at hc
  have HW : Hid (wayT (k + 1) used = sumT k used 4 (nd 7 used)) := Lib.hid (wayT_sum k hk used hu)
  have HST : Hid (∀ m, m < 8 → 0 < m → sumT k used 4 m = wayT k (used ||| lowN m) + sumT k used 4 (m &&& (m - 1))) := Lib.hid (sumT_step k hk used hu)
  have HSM : Hid (∀ m, m < 8 → sumT k used 4 m ≤ 100) := Lib.hid (sumT_small k hk used hu)
  have hnd : nd 7 used < 8 := nd_le _ _ 3 (by decide)
  have hb1 : bits .andNot .i64 (7 : Int) (used : Int) = ((nd 7 used : Nat) : Int) := bits_andNot_nat 7 used (by omega) (by omega)
  have hjq : ((j : Int) == 3) = false := by simp; omega
  have hjq2 : (j == 3) = false := by simp; omega
  have j0 : (0 : Int) ≤ (j : Int) := by omega
  have jn : (j : Int) < 3 := by omega
  have IH : Hid (∀ u : Nat, u < 8 → Calls Tryz.prog 58 #[.int .i64 3, .slice (some ⟨b, o, none⟩) 3 c, .int .i64 ((j : Int) + 1), .int .i64 (u : Int)] w fun e w' => e = .returned (.int .i64 (wayT k u : Int)) ∧ w = w') := Lib.hid fun u hu => ih (j + 1) u w (by omega) hu hi
  obtain ⟨M, hM⟩ : ∃ z, z = nd 7 used := ⟨_, rfl⟩
  obtain ⟨T, hT⟩ : ∃ z, z = wayT (k + 1) used := ⟨_, rfl⟩
  rw [← hM] at hb1 hnd HW
  rw [← hT] at HW ⊢
  have hT1 : T ≤ 100 := by rw [HW.out]; exact HSM.out M hnd
  clear hi ih hM hT hj e
  go_enter Tryz.func58, Tryz.ntmps58
  go_wp2
  go_loop [9, 10] (fun si mi => ∃ S m : Nat, si = .int .i64 (S : Int) ∧ mi = .int .i64 (m : Int) ∧ m < 8 ∧ Hid (S + sumT k used 4 m = T)) (fun _ mi => (intOf mi).toNat)
  case atStart => exact ⟨0, M, rfl, rfl, hnd, by rw [Nat.zero_add]; exact HW.out.symm⟩
  case round => as_aux_lemma =>
    obtain ⟨S, m, rfl, rfl, hm, hS⟩ := hrel
    by_cases hm0 : 0 < m
    · have hst := HST.out m hm hm0
      obtain ⟨l1, l2⟩ := low_lt8 m hm
      obtain ⟨P, hP⟩ : ∃ z, z = lowN m := ⟨_, rfl⟩
      have a1 := low_and8 m hm hm0
      rw [← hP] at a1 l1 hst
      obtain ⟨U, hU⟩ : ∃ z, z = used ||| P := ⟨_, rfl⟩
      have hU8 : U < 8 := by rw [hU]; exact or_lt8 _ hu _ l1
      have a2 : bits .or .i64 (used : Int) (P : Int) = (U : Int) := by rw [hU]; exact bits_or_nat _ _ (by omega) (by omega)
      obtain ⟨m2, hm2⟩ : ∃ z, z = m &&& (m - 1) := ⟨_, rfl⟩
      have e1 : (m : Int) - 1 = ((m - 1 : Nat) : Int) := by omega
      have a3 : bits .and .i64 (m : Int) ((m : Int) - 1) = (m2 : Int) := by rw [e1, hm2]; exact bits_and_nat _ _ (by omega) (by omega)
      have a4 : IntKind.i64.wrap (-(m : Int)) = -(m : Int) := IntWalk.i64_in _ (by omega)
      have hm2m : m2 < m := by rw [hm2]; have : m &&& (m - 1) ≤ m - 1 := Nat.and_le_right; omega
      have K := Lib.hid (IH.out U hU8)
      obtain ⟨V, hV⟩ : ∃ z, z = wayT k U := ⟨_, rfl⟩
      rw [← hV] at K
      have HS2 : Hid (S + V + sumT k used 4 m2 = T) := Lib.hid (by
        have h := hS.out
        rw [hst, ← hU, ← hV, ← hm2] at h
        omega)
      have hSV : S + V ≤ 100 := by have h1 := HS2.out; omega
      rw [← hm2] at l2
      have m0 : (0 : Int) < (m : Int) := by omega
      have hq : decide (0 < m) = true := decide_eq_true hm0
      clear hst l1 hP hU hm2 e1 hV hS
      go_wp2_with fail
      refine K.out.mono ?_
      rintro e w1 ⟨rfl, rfl⟩
      go_wp2
      go_round
      case rel => exact ⟨S + V, m2, by go_num, rfl, by omega, HS2.out⟩
      case measure => simp [intOf]; omega
    · obtain rfl : m = 0 := by omega
      have HT : Hid (S = T) := Lib.hid (by have h := hS.out; have e : sumT k used 4 0 = 0 := rfl; rw [e] at h; omega)
      clear hS
      go_wp2
      go_ret
      exact ⟨by rw [← HT.out]; rfl, rfl⟩
theorem f58_all : ∀ k, k ≤ 3 → WayC A c k
  | 0, _ => f58_end A c
  | k + 1, h => f58_step A c k (by omega) (f58_all k (by omega))
end
set_option maxRecDepth 100000 in
set_option maxHeartbeats 2000000 in
/-- slices.IndexFunc at no rows -/
theorem f122_none (c : Nat) (v : Value) (w : World) : Calls Tryz.prog 122 #[.slice none 0 c, v] w fun e w' => e = .returned (.int .i64 (-1)) ∧ w = w' := by
  go_enter Tryz.func122, Tryz.ntmps122
  go_wp2
  go_loop [8] (fun i => i = .int .i64 0) (fun _ => 0)
  case atStart => exact rfl
  case round => as_aux_lemma =>
    obtain rfl := hrel
    go_wp2
    go_ret
    exact ⟨rfl, rfl⟩
theorem f87_none (c : Nat) (v : Value) (w : World) : Calls Tryz.prog 87 #[.slice none 0 c, v] w fun e w' => e = .returned (.bool false) ∧ w = w' := by
  go_enter Tryz.func87, Tryz.ntmps87
  go_wp2_with fail
  refine (f122_none c v w).mono ?_
  rintro e w1 ⟨rfl, rfl⟩
  go_wp2
  go_ret
  exact ⟨rfl, rfl⟩
set_option maxRecDepth 100000 in
set_option maxHeartbeats 2000000 in
/-- bed.clash at no rows -/
theorem f90_none (w : World) : Calls Tryz.prog 90 #[.slice none 0 0] w fun e w' => e = .returned (.tuple #[.int .i64 0, .int .i64 0, .bool false]) ∧ w = w' := by
  go_enter Tryz.func90, Tryz.ntmps90
  go_wp2
  go_loop [12] (fun i => i = .int .i64 0) (fun _ => 0)
  case atStart => exact rfl
  case round => as_aux_lemma =>
    obtain rfl := hrel
    go_wp2
    refine bodyPost_ret (results_tmp3 rfl _ _ _) rfl ?_
    exact ⟨rfl, rfl⟩
set_option maxRecDepth 100000 in
set_option maxHeartbeats 2000000 in
/-- bed.start at no rows -/
theorem f57_none (w : World) : Calls Tryz.prog 57 #[.int .i64 3, .slice none 0 0] w fun e w' => e = .returned (.bool true) ∧ Below w.heap.size w w' := by
  have hmf : ∀ (fn : Fn) (first cap : Array Value) (w : World), (Instr.makeFunc fn first cap).run Tryz.prog w = .ok (.func fn first cap) w := fun _ _ _ _ => rfl
  have b0 := Lib.hid (below_alloc w (.cells #[.int .i64 3] 3))
  go_enter Tryz.func57, Tryz.ntmps57
  go_wp2_with fail
  refine (f87_none 0 _ _).mono ?_
  rintro e w1 ⟨rfl, rfl⟩
  go_wp2_with fail
  refine (f90_none _).mono ?_
  rintro e w1 ⟨rfl, rfl⟩
  go_wp2
  go_ret
  exact ⟨rfl, b0.out⟩
set_option maxRecDepth 100000 in
set_option maxHeartbeats 2000000 in
/-- bed.opened at no rows -/
theorem f59_none (w : World) : Calls Tryz.prog 59 #[.int .i64 3, .slice none 0 0] w fun e w' => ∃ g, e = .returned (.slice (some ⟨g, 0, none⟩) 3 3) ∧ Own w' g [7, 7, 7] ∧ Below w.heap.size w w' := by
  have b0 := Lib.hid (below_alloc w (.cells #[.int .i64 7] 3))
  have hc : (w.alloc (.cells #[.int .i64 7] 3)).cell? ⟨w.heap.size, 0, none⟩ = some (.int .i64 7) := (cell_new w #[.int .i64 7] 3 0).trans rfl
  have K := Lib.hid (f63_one w.heap.size 3 7 (by omega) (by omega) (w.alloc (.cells #[.int .i64 7] 3)) hc)
  clear hc
  go_enter Tryz.func59, Tryz.ntmps59
  go_wp2_with fail
  refine K.out.mono ?_
  rintro e w1 ⟨g, rfl, ho, _, hb⟩
  have HO := Lib.hid ho
  have HB := Lib.hid (below_step b0.out hb)
  clear ho hb
  go_wp2
  go_loop [18] (fun i => i = .int .i64 0) (fun _ => 0)
  case atStart => exact rfl
  case round => as_aux_lemma =>
    obtain rfl := hrel
    go_wp2
    go_ret
    exact ⟨g, rfl, HO.out, HB.out⟩
set_option maxRecDepth 100000 in
set_option maxHeartbeats 2000000 in
/-- bed.Rows of 3 crops, nothing sown -/
theorem f41r_none (w : World) : Calls Tryz.prog 41 #[.int .i64 3, .slice none 0 0] w fun e w' => e = .returned (.tuple #[.int .i64 6, .int .i64 0]) ∧ Below w.heap.size w w' := by
  go_enter Tryz.func41, Tryz.ntmps41
  go_wp2_with fail
  refine (f57_none w).mono ?_
  rintro e w1 ⟨rfl, hb⟩
  have HB := Lib.hid hb
  clear hb
  go_wp2_with fail
  refine (f59_none w1).mono ?_
  rintro e w2 ⟨g, rfl, ho, hb⟩
  have HB2 := Lib.hid (below_step HB.out hb)
  have K : Hid (Calls Tryz.prog 58 #[.int .i64 3, .slice (some ⟨g, 0, none⟩) 3 3, .int .i64 0, .int .i64 0] w2 fun e w' => e = .returned (.int .i64 6) ∧ w2 = w') := Lib.hid (f58_all (some ⟨g, 0, none⟩) 3 3 (by omega) 0 0 w2 (by omega) (by omega) (ho.ints (by simp)))
  clear ho hb
  go_wp2_with fail
  refine K.out.mono ?_
  rintro e w3 ⟨rfl, rfl⟩
  go_wp2
  go_ret2
  exact ⟨rfl, HB2.out⟩
end Go.Proofs.YtmepndnckcpgjaaGreat

namespace Go.Proofs.YtmepndnckcpgjaaGreat
open Go.RowKit
set_option maxRecDepth 100000 in
set_option maxHeartbeats 2000000 in
/-- (*plan).modulo -/
theorem f126_any (p : Nat) (b r m : Int) (w : World) (h : w.cell? ⟨p, 0, none⟩ = some (.int .i64 3)) (hr : b.tmod 3 = r) (hr2 : -2 ≤ r ∧ r ≤ 2) (hm : (r + 3).tmod 3 = m) (hm2 : 0 ≤ m ∧ m ≤ 2) :
    Calls Tryz.prog 126 #[.pointer (some ⟨p, 0, none⟩), .int .i64 b] w fun e w' => e = .returned (.int .i64 m) ∧ ∃ k, w' = w.drewN k := by
  have w1 : IntKind.i64.wrap r = r := IntWalk.i64_in _ (by omega)
  have w2 : IntKind.i64.wrap (r + 3) = r + 3 := IntWalk.i64_in _ (by omega)
  have w3 : IntKind.i64.wrap m = m := IntWalk.i64_in _ (by omega)
  go_enter Tryz.func126, Tryz.ntmps126
  go_wp2
  go_quiet (fail)
  go_wp2
  go_ret
  exact ⟨rfl, _, rfl⟩
def turnV (s m : Nat) : Nat := if m = 0 then s else if m = 1 then (s % 4) * 2 + s / 4 else (s % 2) * 4 + s / 2
set_option maxRecDepth 100000 in
set_option maxHeartbeats 8000000 in
/-- (*plan).turned -/
theorem f95_any (p : Nat) (s : Nat) (b r : Int) (m : Nat) (w : World) (hs : s < 8) (h : w.cell? ⟨p, 0, none⟩ = some (.int .i64 3)) (hr : b.tmod 3 = r) (hr2 : -2 ≤ r ∧ r ≤ 2) (hm : (r + 3).tmod 3 = (m : Int)) (hm2 : m ≤ 2) :
    Calls Tryz.prog 95 #[.pointer (some ⟨p, 0, none⟩), .int .u32 (s : Int), .int .i64 b] w fun e w' => e = .returned (.int .u32 (turnV s m : Int)) ∧ ∃ k, w' = w.drewN k := by
  have K := Lib.hid (f126_any p b r m w h hr hr2 hm (by omega))
  clear hr hr2 hm
  go_enter Tryz.func95, Tryz.ntmps95
  go_wp2_with fail
  refine K.out.mono ?_
  rintro e w1 ⟨rfl, k1, rfl⟩
  have hm3 : m = 0 ∨ m = 1 ∨ m = 2 := by omega
  have hs3 : s = 0 ∨ s = 1 ∨ s = 2 ∨ s = 3 ∨ s = 4 ∨ s = 5 ∨ s = 6 ∨ s = 7 := by omega
  clear K
  rcases hm3 with rfl | rfl | rfl <;> rcases hs3 with rfl | rfl | rfl | rfl | rfl | rfl | rfl | rfl
  all_goals
    go_wp2
    go_quiet (fail)
    go_wp2
    go_ret
    exact ⟨by rfl, by first | exact ⟨_, rfl⟩ | exact ⟨_, World.drewN_drewN _ _ _⟩⟩
end Go.Proofs.YtmepndnckcpgjaaGreat

namespace Go.Proofs.YtmepndnckcpgjaaGreat
open Go.RowKit
/-- The one span. -/
def Span1 (w : World) (b : Nat) : Prop := w.cell? ⟨b, 0, none⟩ = some (.int .i64 0) ∧ w.cell? ⟨b, 1, none⟩ = some (.int .i64 1) ∧ w.cell? ⟨b, 2, none⟩ = some (.int .i64 1) ∧ w.cell? ⟨b, 3, none⟩ = some (.int .i64 2)
theorem Span1.below {w w' : World} {b : Nat} (h : Span1 w b) (hb : Below w.heap.size w w') : Span1 w' b :=
  ⟨(hb.cell (lt_of_cell h.1)).trans h.1, (hb.cell (lt_of_cell h.2.1)).trans h.2.1, (hb.cell (lt_of_cell h.2.2.1)).trans h.2.2.1, (hb.cell (lt_of_cell h.2.2.2)).trans h.2.2.2⟩
/-- The plan. -/
structure Plan1 (w : World) (p b : Nat) : Prop where
  t : w.cell? ⟨p, 0, none⟩ = some (.int .i64 3)
  n : w.cell? ⟨p, 1, none⟩ = some (.int .i64 2)
  s : w.cell? ⟨p, 2, none⟩ = some (.slice (some ⟨b, 0, none⟩) 1 1)
  span : Span1 w b
theorem Plan1.below {w w' : World} {p b : Nat} (h : Plan1 w p b) (hb : Below w.heap.size w w') : Plan1 w' p b :=
  ⟨(hb.cell (lt_of_cell h.t)).trans h.t, (hb.cell (lt_of_cell h.n)).trans h.n, (hb.cell (lt_of_cell h.s)).trans h.s, h.span.below hb⟩
set_option maxRecDepth 100000 in
set_option maxHeartbeats 4000000 in
/-- turn.of -/
theorem f60_one (b : Nat) (w : World) (h : Span1 w b) :
    Calls Tryz.prog 60 #[.int .i64 3, .int .i64 2, .slice (some ⟨b, 0, none⟩) 1 1] w fun e w' => ∃ p, e = .returned (.tuple #[.pointer (some ⟨p, 0, none⟩), .int .i64 0]) ∧ Plan1 w' p b ∧ Below w.heap.size w w' ∧ w.heap.size ≤ p := by
  have HS := Lib.hid h
  obtain ⟨c0, c1, c2, c3⟩ := h
  go_enter Tryz.func60, Tryz.ntmps60
  go_wp2
  go_loopw [31] (fun i wr => ∃ k : Nat, k ≤ 1 ∧ i = .int .i64 (k : Int) ∧ Hid (Below w.heap.size w wr)) (fun i _ => 1 - (intOf i).toNat)
  case atStart => exact ⟨0, by omega, rfl, Lib.hid (Below.refl _ _)⟩
  case round => as_aux_lemma =>
    obtain ⟨k, hk, rfl, HB⟩ := hrel
    by_cases hk0 : k = 0
    · subst hk0
      obtain ⟨d0, d1, d2, d3⟩ := HS.out.below HB.out
      have HB2 : Hid (Below w.heap.size w (wr.alloc (.cells #[.int .i64 0, .int .i64 1, .int .i64 1, .int .i64 2] 75))) := Lib.hid (HB.out.alloc HB.out.size _)
      go_wp2
      go_roundw
      case rel => exact ⟨1, by omega, by go_num, HB2⟩
      case measure => simp [intOf]
    · obtain rfl : k = 1 := by omega
      go_wp2
      go_ret2
      have hal := below_alloc wr (.cells #[.int .i64 3, .int .i64 2, .slice (some ⟨b, 0, none⟩) 1 1] 131)
      exact ⟨wr.heap.size, rfl, ⟨(cell_new wr _ 131 0).trans rfl, (cell_new wr _ 131 1).trans rfl, (cell_new wr _ 131 2).trans rfl, (HS.out.below HB.out).below hal⟩, below_step HB.out hal, HB.out.size⟩
end Go.Proofs.YtmepndnckcpgjaaGreat

namespace Go.Proofs.YtmepndnckcpgjaaGreat
open Go.RowKit
/-- A block of 36 hours, known whole. -/
def MatI (W : World) (o : Nat) (f : Nat → Int) : Prop := W.heap[o]? = some (.cells ((List.range 36).map fun i => Value.int .u32 (f i)).toArray 134 (0, 0))
section
variable {W W' : World} {o : Nat} {f g : Nat → Int}
theorem MatI.lt (h : MatI W o f) : o < W.heap.size := lt_of_block h
theorem MatI.congr (h : MatI W o f) (e : ∀ x, x < 36 → f x = g x) : MatI W o g := by
  unfold MatI at h ⊢
  rw [h]
  have : ((List.range 36).map fun i => Value.int .u32 (f i)) = (List.range 36).map fun i => Value.int .u32 (g i) := List.map_congr_left fun i hi => by rw [e i (List.mem_range.1 hi)]
  rw [this]
theorem MatI.cell (h : MatI W o f) {i : Nat} (hi : i < 36) : W.cell? ⟨o, i, none⟩ = some (.int .u32 (f i)) := by
  rw [cell_of_row W o i _ 134 (0, 0) h]
  simp [hi]
theorem MatI.frozen (h : MatI W o f) (i : Nat) : W.frozen? ⟨o, i, none⟩ = false := by
  unfold MatI at h
  simp only [World.frozen?, h]
  rfl
theorem MatI.below (h : MatI W o f) (hb : Below W.heap.size W W') : MatI W' o f := (hb.block o h.lt).trans h
theorem MatI.drewN (h : MatI W o f) (q : Nat) : MatI (W.drewN q) o f := h
theorem MatI.far (h : MatI W o f) {p : Addr} (hp : o ≠ p.block) (u : Value) : MatI (W.setCell p u) o f := (Below.heap_setCell W p u o hp).trans h
theorem MatI.set (h : MatI W o f) (i : Nat) (v : Int) : MatI (W.setCell ⟨o, i, none⟩ (.int .u32 v)) o (fun x => if x = i then v else f x) := by
  unfold MatI at h ⊢
  simp only [World.setCell, Array.getElem?_modify, h]
  simp only [if_true, Option.map_some, Option.isSome_none, Bool.false_eq_true, if_false]
  congr 2
  apply Array.toList_inj.1
  rw [Array.toList_setIfInBounds]
  apply List.ext_getElem
  · simp
  · intro j h1 h2
    rw [List.getElem_set]
    by_cases e : i = j
    · subst e; simp
    · have e2 : ¬ j = i := fun e2 => e e2.symm
      simp [e, e2]
end
theorem two_mats (w : World) (Z : Array Value) (hZ : Z = ((List.range 36).map fun _ => Value.int .u32 0).toArray) : ∃ W, (w.alloc (.cells Z 134)).alloc (.cells Z 134) = W ∧ MatI W w.heap.size (fun _ => 0) ∧ MatI W (w.heap.size + 1) (fun _ => 0) ∧ Below w.heap.size w W := by
  subst hZ
  have a1 : (w.alloc (.cells ((List.range 36).map fun _ => Value.int .u32 0).toArray 134)).heap[w.heap.size]? = some (.cells ((List.range 36).map fun _ => Value.int .u32 0).toArray 134 (0, 0)) := heap_alloc_new w _
  have s1 : (w.alloc (.cells ((List.range 36).map fun _ => Value.int .u32 0).toArray 134)).heap.size = w.heap.size + 1 := by simp
  have b1 := below_alloc w (.cells ((List.range 36).map fun _ => Value.int .u32 0).toArray 134)
  generalize hZZ : ((List.range 36).map fun _ => Value.int .u32 0).toArray = Z at *
  generalize hw1 : w.alloc (.cells Z 134) = w1 at *
  refine ⟨_, rfl, ?_, ?_, below_step b1 (below_alloc w1 _)⟩
  · unfold MatI
    rw [hZZ]
    exact (Below.heap_alloc w1 (.cells Z 134) w.heap.size (by omega)).trans a1
  · unfold MatI
    rw [hZZ, ← s1]
    exact heap_alloc_new w1 _
def fJ (i j : Nat) : Nat → Int := fun x => if x / 6 < i ∨ (x / 6 = i ∧ x % 6 < j) then (if 2 ≤ x / 6 ∨ 2 ≤ x % 6 then 0 else if x / 6 = x % 6 then 1 else 7) else 0
theorem fJ_next : ∀ i, i < 2 → ∀ j, j < 2 → ∀ x, x < 36 → (if i = j then (fun x => if x = i * 6 + j then 1 else (fun x => if x = i * 6 + j then 7 else fJ i j x) x) x else (fun x => if x = i * 6 + j then 7 else fJ i j x) x) = fJ i (j + 1) x := by decide
theorem fJ_row : ∀ i, i < 2 → ∀ x, x < 36 → fJ i 2 x = fJ (i + 1) 0 x := by decide
theorem fJ_zero : ∀ x, x < 36 → (0 : Int) = fJ 0 0 x := by decide
/-- what apart comes to. -/
def apF : Nat → Int := fun x => if x = 0 ∨ x = 7 then 1 else if x = 1 ∨ x = 6 then 6 else 0
theorem apF_end : ∀ x, x < 36 → (fun x => if x = 6 then (6 : Int) else (fun x => if x = 1 then 6 else fJ 2 0 x) x) x = apF x := by decide
/-- the same in whole numbers from 0 on. -/
def apN (x : Nat) : Nat := if x = 0 ∨ x = 7 then 1 else if x = 1 ∨ x = 6 then 6 else 0
theorem apF_apN : ∀ x, x < 36 → apF x = ((apN x : Nat) : Int) := by decide
/-- what both allow, up to an hour. -/
def bF (k i j : Nat) : Nat → Nat
  | 0 => 0
  | h + 1 => if (apN (i * 6 + k)).testBit h then bF k i j h ||| turnV (apN (k * 6 + j)) h else bF k i j h
theorem apN_lt : ∀ x, x < 36 → apN x < 8 := by decide
theorem bF_bit : ∀ k, k < 2 → ∀ i, i < 2 → ∀ h, h < 3 → (bits BinOp.and IntKind.u32 (apN (i * 6 + k) : Int) ((2 : Int) ^ h % 4294967296) != 0) = (apN (i * 6 + k)).testBit h := by decide
theorem bF_or : ∀ k, k < 2 → ∀ i, i < 2 → ∀ j, j < 2 → ∀ h, h < 3 → bits BinOp.or IntKind.u32 (bF k i j h : Int) (turnV (apN (k * 6 + j)) h : Int) = ((bF k i j h ||| turnV (apN (k * 6 + j)) h : Nat) : Int) := by decide
theorem bF_end : ∀ k, k < 2 → ∀ i, i < 2 → ∀ j, j < 2 → (bits BinOp.andNot IntKind.u32 (apN (i * 6 + j) : Int) (bF k i j 3 : Int) != 0) = false := by decide
/-- what apart comes to, as a list of values. -/
def matV : List Value := (List.range 36).map fun i => Value.int .u32 (apN i : Int)
theorem MatI.range {W : World} {o : Nat} (h : MatI W o fun x => (apN x : Int)) : W.rangeAt o 0 matV := by
  intro j v hv
  have hj : j < 36 := by
    have := (List.getElem?_eq_some_iff.1 hv).1
    simpa [matV] using this
  rw [Nat.zero_add, h.cell hj]
  simp only [matV, List.getElem?_map, List.getElem?_range hj, Option.map_some] at hv
  exact hv
theorem hund : Tryz.prog.underlying 134 = some (.array 6 133) := by kernel_rfl
theorem hinf : (Tryz.prog.info? 134).map (·.size) = some matV.length := by kernel_rfl
theorem MatI.there {W : World} {o : Nat} {f : Nat → Int} (h : MatI W o f) : W.there o 0 matV.toArray.size := by
  intro j hj
  have hj : j < 36 := by simpa [matV] using hj
  rw [Nat.zero_add, h.cell hj]
  exact ⟨rfl, h.frozen j⟩
theorem hinf2 : (Tryz.prog.info? 134).map (·.size) = some matV.toArray.size := by kernel_rfl
theorem hone : matV.toArray.all (·.oneCell') = true := by kernel_rfl
theorem results_cell_mid {P : Program} {fn : Func} {p : Tmp} {ty : TypeId} {g : Nat} (h : fn.results = #[.cell p ty]) (tmps : Array Value) (w : World) (cs : List Value) (d : TypeDesc)
    (hp : tmps.getD p undef = .pointer (some ⟨g, 0, none⟩)) (hc : w.rangeAt g 0 cs)
    (hu : P.underlying ty = some d) (hd : d.isRow = true) (hi : (P.info? ty).map (·.size) = some cs.length) :
    (results fn tmps).run P w = .ok (.agg cs.toArray) w := by
  have hp' : tmps[p]?.getD undef = .pointer (some ⟨g, 0, none⟩) := by simpa using hp
  simp [results, h, hp', asAddr, run_loadVar_mid w g 0 ty cs d hc hu hd hi]
theorem below_sets {B b : Nat} {a : World} (hb : B ≤ b) : ∀ (vs : List Value) (o : Nat) {W : World}, Below B a W → Below B a (W.setCells b o vs)
  | [], _, _, h => h
  | v :: r, o, _, h => below_sets hb r (o + 1) (h.setCell (p := ⟨b, o, none⟩) hb v)
set_option maxRecDepth 100000 in
set_option maxHeartbeats 8000000 in
/-- (*plan).apart at one span. -/
theorem f92_any (p b : Nat) (w : World) (h : Plan1 w p b) :
    Calls Tryz.prog 92 #[.pointer (some ⟨p, 0, none⟩)] w fun e w' => e = .returned (.agg matV.toArray) ∧ Below w.heap.size w w' := by
  obtain ⟨W, hW, hm1, hm2, hbl⟩ := two_mats w #[.int .u32 0, .int .u32 0, .int .u32 0, .int .u32 0, .int .u32 0, .int .u32 0, .int .u32 0, .int .u32 0, .int .u32 0, .int .u32 0, .int .u32 0, .int .u32 0, .int .u32 0, .int .u32 0, .int .u32 0, .int .u32 0, .int .u32 0, .int .u32 0, .int .u32 0, .int .u32 0, .int .u32 0, .int .u32 0, .int .u32 0, .int .u32 0, .int .u32 0, .int .u32 0, .int .u32 0, .int .u32 0, .int .u32 0, .int .u32 0, .int .u32 0, .int .u32 0, .int .u32 0, .int .u32 0, .int .u32 0, .int .u32 0] rfl
  have HM1 := Lib.hid hm1
  have HM2 := Lib.hid hm2
  have HB := Lib.hid hbl
  have HP := Lib.hid h
  have q0 := (h.below hbl).t
  have q1 := (h.below hbl).n
  have q2 := (h.below hbl).s
  clear hm1 hm2 hbl h
  go_enter Tryz.func92, Tryz.ntmps92
  go_wp2
  clear hW
  go_loopw [18] (fun ii wr => ∃ i : Nat, i ≤ 2 ∧ ii = .int .i64 (i : Int) ∧ Hid (MatI wr (w.heap.size + 1) (fJ i 0)) ∧ Hid (MatI wr w.heap.size fun _ => 0) ∧ Hid (Below w.heap.size w wr)) (fun ii _ => 2 - (intOf ii).toNat)
  case atStart => exact ⟨0, by omega, rfl, Lib.hid (HM2.out.congr fJ_zero), HM1, HB⟩
  case round => as_aux_lemma =>
    obtain ⟨i, hi, rfl, M2, M1, B⟩ := hrel
    obtain ⟨wt, rfl⟩ : ∃ z, z = wr := ⟨_, rfl⟩
    by_cases hi2 : i < 2
    · have i0 : (0 : Int) ≤ (i : Int) := by omega
      have i2 : (i : Int) < 2 := by omega
      have q1 := (HP.out.below B.out).n
      go_wp2
      go_loopw [25] (fun ji wr => ∃ j : Nat, j ≤ 2 ∧ ji = .int .i64 (j : Int) ∧ Hid (MatI wr (w.heap.size + 1) (fJ i j)) ∧ Hid (MatI wr w.heap.size fun _ => 0) ∧ Hid (Below w.heap.size w wr)) (fun ji _ => 2 - (intOf ji).toNat)
      case atStart => exact ⟨0, by omega, rfl, M2, M1, B⟩
      case round => as_aux_lemma =>
        obtain ⟨j, hj, rfl, M2, M1, B⟩ := hrel
        by_cases hj2 : j < 2
        · have q0 := (HP.out.below B.out).t
          have hNX := Lib.hid (fJ_next i hi2 j hj2)
          have hi3 : i = 0 ∨ i = 1 := by omega
          have hj3 : j = 0 ∨ j = 1 := by omega
          have hc := M2.out.cell (i := i * 6 + j) (by omega)
          have hf := M2.out.frozen (i * 6 + j)
          clear hi3 hj3
          have j0 : (0 : Int) ≤ (j : Int) := by omega
          have j2 : (j : Int) < 2 := by omega
          have i6 : (i : Int) < 6 := by omega
          have j6 : (j : Int) < 6 := by omega
          by_cases hij : i = j
          · have hNX2 : Hid (∀ x, x < 36 → (fun x => if x = i * 6 + j then (1 : Int) else (fun x => if x = i * 6 + j then 7 else fJ i j x) x) x = fJ i (j + 1) x) := Lib.hid fun x hx => by have := hNX.out x hx; rw [if_pos hij] at this; exact this
            have hq : ((i : Int) == (j : Int)) = true := by simp; omega
            clear hij hNX
            go_wp2_with fail
            go_region
            go_wp2
            go_roundw
            case rel => exact ⟨j + 1, by omega, by go_num, Lib.hid (((M2.out.set (i * 6 + j) 7).set (i * 6 + j) 1).congr hNX2.out), Lib.hid ((M1.out.far (p := ⟨w.heap.size + 1, i * 6 + j, none⟩) (by simp only; omega) _).far (p := ⟨w.heap.size + 1, i * 6 + j, none⟩) (by simp only; omega) _), Lib.hid (((below_drewN B.out 1).setCell (p := ⟨w.heap.size + 1, i * 6 + j, none⟩) (Nat.le_succ _) _).setCell (p := ⟨w.heap.size + 1, i * 6 + j, none⟩) (Nat.le_succ _) _)⟩
            case measure => simp [intOf]; omega
          · have hNX2 : Hid (∀ x, x < 36 → (fun x => if x = i * 6 + j then (7 : Int) else fJ i j x) x = fJ i (j + 1) x) := Lib.hid fun x hx => by have := hNX.out x hx; rw [if_neg hij] at this; exact this
            have hq : ((i : Int) == (j : Int)) = false := by simp; omega
            clear hij hNX
            go_wp2_with fail
            go_region
            go_wp2
            go_roundw
            case rel => exact ⟨j + 1, by omega, by go_num, Lib.hid ((M2.out.set (i * 6 + j) 7).congr hNX2.out), Lib.hid (M1.out.far (p := ⟨w.heap.size + 1, i * 6 + j, none⟩) (by simp only; omega) _), Lib.hid ((below_drewN B.out 1).setCell (p := ⟨w.heap.size + 1, i * 6 + j, none⟩) (Nat.le_succ _) _)⟩
            case measure => simp [intOf]; omega
        · obtain rfl : j = 2 := by omega
          go_wp2
          go_roundw
          case rel => exact ⟨i + 1, by omega, by go_num, Lib.hid (M2.out.congr (fJ_row i hi2)), M1, B⟩
          case measure => simp [intOf]; omega
    · have i2e : i = 2 := by omega
      have M2 : Hid (MatI wt (w.heap.size + 1) (fJ 2 0)) := Lib.hid (by have := M2.out; rw [i2e] at this; exact this)
      have i0 : (0 : Int) ≤ (i : Int) := by omega
      have i2 : ¬ (i : Int) < 2 := by omega
      clear hi hi2 i2e
      have q0 := (HP.out.below B.out).t
      have q1 := (HP.out.below B.out).n
      have q2 := (HP.out.below B.out).s
      go_wp2
      go_loopw [52] (fun ki wr => ∃ k : Nat, k ≤ 1 ∧ ki = .int .i64 (k : Int) ∧ Hid (MatI wr (w.heap.size + 1) (if k = 0 then fJ 2 0 else apF)) ∧ Hid (MatI wr w.heap.size fun _ => 0) ∧ Hid (Below w.heap.size w wr)) (fun ki _ => 1 - (intOf ki).toNat)
      case atStart => exact ⟨0, by omega, rfl, M2, M1, B⟩
      case round => as_aux_lemma =>
        obtain ⟨k, hk, rfl, M2, M1, B⟩ := hrel
        by_cases hk0 : k = 0
        · subst hk0
          have M2 : Hid (MatI wr (w.heap.size + 1) (fJ 2 0)) := M2
          obtain ⟨d0, d1, d2, d3⟩ := (HP.out.below B.out).span
          have K95a : Hid (∀ W, W.cell? ⟨p, 0, none⟩ = some (.int .i64 3) → Calls Tryz.prog 95 #[.pointer (some ⟨p, 0, none⟩), .int .u32 3, .int .i64 1] W fun e w' => e = .returned (.int .u32 6) ∧ ∃ k, w' = W.drewN k) := Lib.hid fun W hW => f95_any p 3 1 1 1 W (by decide) hW (by decide) (by decide) (by decide) (by decide)
          have K95b : Hid (∀ W, W.cell? ⟨p, 0, none⟩ = some (.int .i64 3) → Calls Tryz.prog 95 #[.pointer (some ⟨p, 0, none⟩), .int .u32 3, .int .i64 (-2)] W fun e w' => e = .returned (.int .u32 6) ∧ ∃ k, w' = W.drewN k) := Lib.hid fun W hW => f95_any p 3 (-2) (-2) 1 W (by decide) hW (by decide) (by decide) (by decide) (by decide)
          have hal := below_alloc wr (.cells #[.int .i64 0, .int .i64 1, .int .i64 1, .int .i64 2] 75)
          have B1 : Hid (Below w.heap.size w (wr.alloc (.cells #[.int .i64 0, .int .i64 1, .int .i64 1, .int .i64 2] 75))) := Lib.hid (B.out.alloc B.out.size _)
          have N2 : Hid (MatI (wr.alloc (.cells #[.int .i64 0, .int .i64 1, .int .i64 1, .int .i64 2] 75)) (w.heap.size + 1) (fJ 2 0)) := Lib.hid (M2.out.below hal)
          have N1 : Hid (MatI (wr.alloc (.cells #[.int .i64 0, .int .i64 1, .int .i64 1, .int .i64 2] 75)) w.heap.size fun _ => 0) := Lib.hid (M1.out.below hal)
          have PC16 := (HP.out.below B1.out).t
          have SC16 : (wr.alloc (.cells #[.int .i64 0, .int .i64 1, .int .i64 1, .int .i64 2] 75)).cell? ⟨wr.heap.size, 0, none⟩ = some (.int .i64 0) ∧ (wr.alloc (.cells #[.int .i64 0, .int .i64 1, .int .i64 1, .int .i64 2] 75)).cell? ⟨wr.heap.size, 1, none⟩ = some (.int .i64 1) ∧ (wr.alloc (.cells #[.int .i64 0, .int .i64 1, .int .i64 1, .int .i64 2] 75)).cell? ⟨wr.heap.size, 2, none⟩ = some (.int .i64 1) ∧ (wr.alloc (.cells #[.int .i64 0, .int .i64 1, .int .i64 1, .int .i64 2] 75)).cell? ⟨wr.heap.size, 3, none⟩ = some (.int .i64 2) := ⟨(cell_new wr _ 75 0).trans rfl, (cell_new wr _ 75 1).trans rfl, (cell_new wr _ 75 2).trans rfl, (cell_new wr _ 75 3).trans rfl⟩
          have hlo : w.heap.size + 1 < wr.heap.size := M2.out.lt
          have SD16 := fun (v : Value) => (⟨(World.cell?_setCell_far (wr.alloc (.cells #[.int .i64 0, .int .i64 1, .int .i64 1, .int .i64 2] 75)) ⟨w.heap.size + 1, 1, none⟩ ⟨wr.heap.size, 0, none⟩ v (by simp only; omega)).trans SC16.1, (World.cell?_setCell_far _ ⟨w.heap.size + 1, 1, none⟩ ⟨wr.heap.size, 1, none⟩ v (by simp only; omega)).trans SC16.2.1, (World.cell?_setCell_far _ ⟨w.heap.size + 1, 1, none⟩ ⟨wr.heap.size, 2, none⟩ v (by simp only; omega)).trans SC16.2.2.1, (World.cell?_setCell_far _ ⟨w.heap.size + 1, 1, none⟩ ⟨wr.heap.size, 3, none⟩ v (by simp only; omega)).trans SC16.2.2.2⟩ : _ ∧ _ ∧ _ ∧ _)
          have SD16 := SD16 (.int .u32 6)
          have hv1 : (wr.alloc (.cells #[.int .i64 0, .int .i64 1, .int .i64 1, .int .i64 2] 75)).cell? ⟨w.heap.size + 1, 1, none⟩ = some (.int .u32 7) := N2.out.cell (i := 1) (by omega)
          have hf1 := N2.out.frozen 1
          clear q0 q1 q2
          go_wp2_with fail
          refine wp_region_held_drew (S := fun W => W.cell? ⟨wr.heap.size, 0, none⟩ = some (.int .i64 0) ∧ W.cell? ⟨wr.heap.size, 1, none⟩ = some (.int .i64 1) ∧ W.cell? ⟨wr.heap.size, 2, none⟩ = some (.int .i64 1) ∧ W.cell? ⟨wr.heap.size, 3, none⟩ = some (.int .i64 2)) (by kernel_rfl) (by exact SC16) (fun hS => ?_)
          refine wpAnyH_take (i := 0) (oi := { dst := some 56, op := Op.fieldAddr 75 (Operand.tmp 7) 0, type := 0, pos := "turn.go:60", after := #[], guard := none }) (v := .pointer (some ⟨wr.heap.size, 0, none⟩)) rfl (by kernel_rfl) (by kernel_rfl) (by kernel_rfl) (fun _ _ _ h => h) (Or.inl ⟨by kernel_rfl, fun W hSW => by go_simp⟩) hS ?_
          try simp only [Act.put, List.setIfInBounds_toArray, List.set_cons_zero, List.set_cons_succ]
          refine wpAnyH_take (i := 1) (oi := { dst := some 57, op := Op.load 3 (Operand.tmp 56), type := 3, pos := "turn.go:60", after := #[{ on := 0, ground := Ground.data }], guard := none }) (v := .int .i64 (0)) rfl (by kernel_rfl) (by kernel_rfl) (by kernel_rfl) (fun _ _ _ h => h) (Or.inl ⟨by kernel_rfl, fun W hSW => by obtain ⟨h0, h1, h2, h3⟩ := hSW; go_simp⟩) hS ?_
          try simp only [Act.put, List.setIfInBounds_toArray, List.set_cons_zero, List.set_cons_succ]
          refine wpAnyH_take (i := 2) (oi := { dst := some 58, op := Op.fieldAddr 75 (Operand.tmp 7) 1, type := 0, pos := "turn.go:60", after := #[], guard := none }) (v := .pointer (some ⟨wr.heap.size, 1, none⟩)) rfl (by kernel_rfl) (by kernel_rfl) (by kernel_rfl) (fun _ _ _ h => h) (Or.inl ⟨by kernel_rfl, fun W hSW => by go_simp⟩) hS ?_
          try simp only [Act.put, List.setIfInBounds_toArray, List.set_cons_zero, List.set_cons_succ]
          refine wpAnyH_take (i := 3) (oi := { dst := some 59, op := Op.load 3 (Operand.tmp 58), type := 3, pos := "turn.go:60", after := #[{ on := 2, ground := Ground.data }], guard := none }) (v := .int .i64 (1)) rfl (by kernel_rfl) (by kernel_rfl) (by kernel_rfl) (fun _ _ _ h => h) (Or.inl ⟨by kernel_rfl, fun W hSW => by obtain ⟨h0, h1, h2, h3⟩ := hSW; go_simp⟩) hS ?_
          try simp only [Act.put, List.setIfInBounds_toArray, List.set_cons_zero, List.set_cons_succ]
          refine wpAnyH_take (i := 4) (oi := { dst := some 60, op := Op.indexAddr 134 (Operand.tmp 3) (Operand.tmp 57), type := 0, pos := "turn.go:60", after := #[{ on := 1, ground := Ground.data }], guard := none }) (v := .pointer (some ⟨(w.heap.size + 1), 0, none⟩)) rfl (by kernel_rfl) (by kernel_rfl) (by kernel_rfl) (fun _ _ _ h => h) (Or.inl ⟨by kernel_rfl, fun W hSW => by go_simp⟩) hS ?_
          try simp only [Act.put, List.setIfInBounds_toArray, List.set_cons_zero, List.set_cons_succ]
          refine wpAnyH_take (i := 5) (oi := { dst := some 61, op := Op.indexAddr 133 (Operand.tmp 60) (Operand.tmp 59), type := 0, pos := "turn.go:60", after := #[{ on := 4, ground := Ground.data }, { on := 3, ground := Ground.data }], guard := none }) (v := .pointer (some ⟨(w.heap.size + 1), 1, none⟩)) rfl (by kernel_rfl) (by kernel_rfl) (by kernel_rfl) (fun _ _ _ h => h) (Or.inl ⟨by kernel_rfl, fun W hSW => by go_simp⟩) hS ?_
          try simp only [Act.put, List.setIfInBounds_toArray, List.set_cons_zero, List.set_cons_succ]
          refine wpAnyH_take (i := 7) (oi := { dst := some 63, op := Op.move (Operand.tmp 0), type := 92, pos := "turn.go:60", after := #[], guard := none }) (v := .pointer (some ⟨p, 0, none⟩)) rfl (by kernel_rfl) (by kernel_rfl) (by kernel_rfl) (fun _ _ _ h => h) (Or.inl ⟨by kernel_rfl, fun W hSW => by kernel_rfl⟩) hS ?_
          try simp only [Act.put, List.setIfInBounds_toArray, List.set_cons_zero, List.set_cons_succ]
          refine wpAnyH_take (i := 8) (oi := { dst := some 64, op := Op.fieldAddr 75 (Operand.tmp 7) 3, type := 0, pos := "turn.go:60", after := #[], guard := none }) (v := .pointer (some ⟨wr.heap.size, 3, none⟩)) rfl (by kernel_rfl) (by kernel_rfl) (by kernel_rfl) (fun _ _ _ h => h) (Or.inl ⟨by kernel_rfl, fun W hSW => by go_simp⟩) hS ?_
          try simp only [Act.put, List.setIfInBounds_toArray, List.set_cons_zero, List.set_cons_succ]
          refine wpAnyH_take (i := 9) (oi := { dst := some 65, op := Op.load 3 (Operand.tmp 64), type := 3, pos := "turn.go:60", after := #[{ on := 8, ground := Ground.data }], guard := none }) (v := .int .i64 (2)) rfl (by kernel_rfl) (by kernel_rfl) (by kernel_rfl) (fun _ _ _ h => h) (Or.inl ⟨by kernel_rfl, fun W hSW => by obtain ⟨h0, h1, h2, h3⟩ := hSW; go_simp⟩) hS ?_
          try simp only [Act.put, List.setIfInBounds_toArray, List.set_cons_zero, List.set_cons_succ]
          refine wpAnyH_take (i := 10) (oi := { dst := some 66, op := Op.fieldAddr 75 (Operand.tmp 7) 2, type := 0, pos := "turn.go:60", after := #[], guard := none }) (v := .pointer (some ⟨wr.heap.size, 2, none⟩)) rfl (by kernel_rfl) (by kernel_rfl) (by kernel_rfl) (fun _ _ _ h => h) (Or.inl ⟨by kernel_rfl, fun W hSW => by go_simp⟩) hS ?_
          try simp only [Act.put, List.setIfInBounds_toArray, List.set_cons_zero, List.set_cons_succ]
          refine wpAnyH_take (i := 11) (oi := { dst := some 67, op := Op.load 3 (Operand.tmp 66), type := 3, pos := "turn.go:60", after := #[{ on := 10, ground := Ground.data }], guard := none }) (v := .int .i64 (1)) rfl (by kernel_rfl) (by kernel_rfl) (by kernel_rfl) (fun _ _ _ h => h) (Or.inl ⟨by kernel_rfl, fun W hSW => by obtain ⟨h0, h1, h2, h3⟩ := hSW; go_simp⟩) hS ?_
          try simp only [Act.put, List.setIfInBounds_toArray, List.set_cons_zero, List.set_cons_succ]
          refine wpAnyH_take (i := 12) (oi := { dst := some 68, op := Op.binOp BinOp.sub 3 (Operand.tmp 65) (Operand.tmp 67) 3, type := 3, pos := "turn.go:60", after := #[{ on := 9, ground := Ground.data }, { on := 11, ground := Ground.data }], guard := none }) (v := .int .i64 (1)) rfl (by kernel_rfl) (by kernel_rfl) (by kernel_rfl) (fun _ _ _ h => h) (Or.inl ⟨by kernel_rfl, fun W hSW => by go_simp; rfl⟩) hS ?_
          try simp only [Act.put, List.setIfInBounds_toArray, List.set_cons_zero, List.set_cons_succ]
          refine wpAnyH_take (i := 13) (oi := { dst := some 69, op := Op.binOp BinOp.add 3 (Operand.tmp 68) (Operand.const (Value.int IntKind.i64 1)) 3, type := 3, pos := "turn.go:60", after := #[{ on := 12, ground := Ground.data }], guard := none }) (v := .int .i64 (2)) rfl (by kernel_rfl) (by kernel_rfl) (by kernel_rfl) (fun _ _ _ h => h) (Or.inl ⟨by kernel_rfl, fun W hSW => by go_simp; rfl⟩) hS ?_
          try simp only [Act.put, List.setIfInBounds_toArray, List.set_cons_zero, List.set_cons_succ]
          refine wpAnyH_take (i := 14) (oi := { dst := some 70, op := Op.binOp BinOp.shl 132 (Operand.const (Value.int IntKind.u32 1)) (Operand.tmp 69) 3, type := 132, pos := "turn.go:60", after := #[{ on := 13, ground := Ground.data }], guard := none }) (v := .int .u32 (4)) rfl (by kernel_rfl) (by kernel_rfl) (by kernel_rfl) (fun _ _ _ h => h) (Or.inl ⟨by kernel_rfl, fun W hSW => by go_simp; rfl⟩) hS ?_
          try simp only [Act.put, List.setIfInBounds_toArray, List.set_cons_zero, List.set_cons_succ]
          refine wpAnyH_take (i := 15) (oi := { dst := some 71, op := Op.binOp BinOp.sub 132 (Operand.tmp 70) (Operand.const (Value.int IntKind.u32 1)) 132, type := 132, pos := "turn.go:60", after := #[{ on := 14, ground := Ground.data }], guard := none }) (v := .int .u32 (3)) rfl (by kernel_rfl) (by kernel_rfl) (by kernel_rfl) (fun _ _ _ h => h) (Or.inl ⟨by kernel_rfl, fun W hSW => by go_simp; rfl⟩) hS ?_
          try simp only [Act.put, List.setIfInBounds_toArray, List.set_cons_zero, List.set_cons_succ]
          refine wpAnyH_take (i := 16) (oi := { dst := some 72, op := Op.fieldAddr 75 (Operand.tmp 7) 2, type := 0, pos := "turn.go:60", after := #[], guard := none }) (v := .pointer (some ⟨wr.heap.size, 2, none⟩)) rfl (by kernel_rfl) (by kernel_rfl) (by kernel_rfl) (fun _ _ _ h => h) (Or.inl ⟨by kernel_rfl, fun W hSW => by go_simp⟩) hS ?_
          try simp only [Act.put, List.setIfInBounds_toArray, List.set_cons_zero, List.set_cons_succ]
          refine wpAnyH_take (i := 17) (oi := { dst := some 73, op := Op.load 3 (Operand.tmp 72), type := 3, pos := "turn.go:60", after := #[{ on := 16, ground := Ground.data }], guard := none }) (v := .int .i64 (1)) rfl (by kernel_rfl) (by kernel_rfl) (by kernel_rfl) (fun _ _ _ h => h) (Or.inl ⟨by kernel_rfl, fun W hSW => by obtain ⟨h0, h1, h2, h3⟩ := hSW; go_simp⟩) hS ?_
          try simp only [Act.put, List.setIfInBounds_toArray, List.set_cons_zero, List.set_cons_succ]
          refine wpAnyH_take (i := 20) (oi := { dst := some 76, op := Op.indexAddr 134 (Operand.tmp 3) (Operand.tmp 57), type := 0, pos := "turn.go:60", after := #[{ on := 1, ground := Ground.data }], guard := none }) (v := .pointer (some ⟨(w.heap.size + 1), 0, none⟩)) rfl (by kernel_rfl) (by kernel_rfl) (by kernel_rfl) (fun _ _ _ h => h) (Or.inl ⟨by kernel_rfl, fun W hSW => by go_simp⟩) hS ?_
          try simp only [Act.put, List.setIfInBounds_toArray, List.set_cons_zero, List.set_cons_succ]
          refine wpAnyH_ready (rs := [6, 18]) (by kernel_rfl) (by simp) ?_
          refine AllReadyH.cons (o := { dst := some 62, op := Op.load 132 (Operand.tmp 61), type := 132, pos := "turn.go:60", after := #[{ on := 5, ground := Ground.data }], guard := none }) rfl (fun K hK => ?_) (AllReadyH.cons (o := { dst := some 74, op := Op.call { callee := Callee.value (Operand.func 95), args := #[Operand.tmp 63, Operand.tmp 71, Operand.tmp 73], argTypes := #[92, 132, 3] }, type := 132, pos := "turn.go:60", after := #[{ on := 7, ground := Ground.data }, { on := 15, ground := Ground.data }, { on := 17, ground := Ground.data }], guard := none }) rfl (fun K hK => ?_) AllReadyH.nil)
          · go_simp
            refine hK.out _ _ (hS) (fun hS => ?_)
            clear hK K
            try simp only [Act.put, List.setIfInBounds_toArray, List.set_cons_zero, List.set_cons_succ]
            refine wpAnyH_ready (rs := [18]) (by kernel_rfl) (by simp) ?_
            refine AllReadyH.cons (o := { dst := some 74, op := Op.call { callee := Callee.value (Operand.func 95), args := #[Operand.tmp 63, Operand.tmp 71, Operand.tmp 73], argTypes := #[92, 132, 3] }, type := 132, pos := "turn.go:60", after := #[{ on := 7, ground := Ground.data }, { on := 15, ground := Ground.data }, { on := 17, ground := Ground.data }], guard := none }) rfl (fun K hK => ?_) AllReadyH.nil
            go_simp
            refine Calls.mono (K95a.out _ (by exact PC16)) ?_
            rintro e w9 ⟨rfl, kk, rfl⟩
            refine hK.out _ _ (by exact SC16) (fun hS => ?_)
            clear hK K
            try simp only [Act.put, List.setIfInBounds_toArray, List.set_cons_zero, List.set_cons_succ]
            refine wpAnyH_take (i := 19) (oi := { dst := some 75, op := Op.binOp BinOp.and 132 (Operand.tmp 62) (Operand.tmp 74) 132, type := 132, pos := "turn.go:60", after := #[{ on := 6, ground := Ground.data }, { on := 18, ground := Ground.data }], guard := none }) (v := .int .u32 (6)) rfl (by kernel_rfl) (by kernel_rfl) (by kernel_rfl) (fun _ _ _ h => h) (Or.inl ⟨by kernel_rfl, fun W hSW => by go_simp; rfl⟩) hS ?_
            try simp only [Act.put, List.setIfInBounds_toArray, List.set_cons_zero, List.set_cons_succ]
            refine wpAnyH_take (i := 21) (oi := { dst := some 77, op := Op.indexAddr 133 (Operand.tmp 76) (Operand.tmp 59), type := 0, pos := "turn.go:60", after := #[{ on := 20, ground := Ground.data }, { on := 3, ground := Ground.data }, { on := 0, ground := Ground.phase }, { on := 1, ground := Ground.phase }, { on := 2, ground := Ground.phase }, { on := 3, ground := Ground.phase }, { on := 4, ground := Ground.phase }, { on := 5, ground := Ground.phase }, { on := 6, ground := Ground.phase }, { on := 7, ground := Ground.phase }, { on := 8, ground := Ground.phase }, { on := 9, ground := Ground.phase }, { on := 10, ground := Ground.phase }, { on := 11, ground := Ground.phase }, { on := 12, ground := Ground.phase }, { on := 13, ground := Ground.phase }, { on := 14, ground := Ground.phase }, { on := 15, ground := Ground.phase }, { on := 16, ground := Ground.phase }, { on := 17, ground := Ground.phase }, { on := 18, ground := Ground.phase }, { on := 19, ground := Ground.phase }], guard := none }) (v := .pointer (some ⟨(w.heap.size + 1), 1, none⟩)) rfl (by kernel_rfl) (by kernel_rfl) (by kernel_rfl) (fun _ _ _ h => h) (Or.inl ⟨by kernel_rfl, fun W hSW => by go_simp⟩) hS ?_
            try simp only [Act.put, List.setIfInBounds_toArray, List.set_cons_zero, List.set_cons_succ]
            refine wpAnyH_ready (rs := [22]) (by kernel_rfl) (by simp) ?_
            refine AllReadyH.cons (o := { dst := none, op := Op.store 132 (Operand.tmp 77) (Operand.tmp 75), type := 0, pos := "turn.go:60", after := #[{ on := 21, ground := Ground.data }, { on := 19, ground := Ground.data }, { on := 18, ground := Ground.chain }, { on := 0, ground := Ground.phase }, { on := 1, ground := Ground.phase }, { on := 2, ground := Ground.phase }, { on := 3, ground := Ground.phase }, { on := 4, ground := Ground.phase }, { on := 5, ground := Ground.phase }, { on := 6, ground := Ground.phase }, { on := 7, ground := Ground.phase }, { on := 8, ground := Ground.phase }, { on := 9, ground := Ground.phase }, { on := 10, ground := Ground.phase }, { on := 11, ground := Ground.phase }, { on := 12, ground := Ground.phase }, { on := 13, ground := Ground.phase }, { on := 14, ground := Ground.phase }, { on := 15, ground := Ground.phase }, { on := 16, ground := Ground.phase }, { on := 17, ground := Ground.phase }, { on := 18, ground := Ground.phase }, { on := 19, ground := Ground.phase }], guard := none }) rfl (fun K hK => ?_) AllReadyH.nil
            go_simp
            refine hK.out _ _ (by exact SD16) (fun hS => ?_)
            clear hK K
            try simp only [Act.put, List.setIfInBounds_toArray, List.set_cons_zero, List.set_cons_succ]
            refine wpAnyH_done (by kernel_rfl) ?_ _
            clear hv1 hf1
            have N2b : Hid (MatI ((wr.alloc (.cells #[.int .i64 0, .int .i64 1, .int .i64 1, .int .i64 2] 75)).setCell ⟨w.heap.size + 1, 1, none⟩ (.int .u32 6)) (w.heap.size + 1) fun x => if x = 1 then 6 else fJ 2 0 x) := Lib.hid (N2.out.set 1 6)
            have N1b : Hid (MatI ((wr.alloc (.cells #[.int .i64 0, .int .i64 1, .int .i64 1, .int .i64 2] 75)).setCell ⟨w.heap.size + 1, 1, none⟩ (.int .u32 6)) w.heap.size fun _ => 0) := Lib.hid (N1.out.far (p := ⟨w.heap.size + 1, 1, none⟩) (by simp only; omega) _)
            have B2 : Hid (Below w.heap.size w ((wr.alloc (.cells #[.int .i64 0, .int .i64 1, .int .i64 1, .int .i64 2] 75)).setCell ⟨w.heap.size + 1, 1, none⟩ (.int .u32 6))) := Lib.hid (B1.out.setCell (p := ⟨w.heap.size + 1, 1, none⟩) (Nat.le_succ _) _)
            have PC17 := (HP.out.below B2.out).t
            have hv2 : ((wr.alloc (.cells #[.int .i64 0, .int .i64 1, .int .i64 1, .int .i64 2] 75)).setCell ⟨w.heap.size + 1, 1, none⟩ (.int .u32 6)).cell? ⟨w.heap.size + 1, 6, none⟩ = some (.int .u32 7) := N2b.out.cell (i := 6) (by omega)
            have hf2 := N2b.out.frozen 6
            have hv3 : wr.cell? ⟨w.heap.size + 1, 6, none⟩ = some (.int .u32 7) := M2.out.cell (i := 6) (by omega)
            have hf3 := M2.out.frozen 6
            have SC17 := SD16
            have SD17 := fun (v : Value) => (⟨(World.cell?_setCell_far ((wr.alloc (.cells #[.int .i64 0, .int .i64 1, .int .i64 1, .int .i64 2] 75)).setCell ⟨w.heap.size + 1, 1, none⟩ (.int .u32 6)) ⟨w.heap.size + 1, 6, none⟩ ⟨wr.heap.size, 0, none⟩ v (by simp only; omega)).trans SC17.1, (World.cell?_setCell_far _ ⟨w.heap.size + 1, 6, none⟩ ⟨wr.heap.size, 1, none⟩ v (by simp only; omega)).trans SC17.2.1, (World.cell?_setCell_far _ ⟨w.heap.size + 1, 6, none⟩ ⟨wr.heap.size, 2, none⟩ v (by simp only; omega)).trans SC17.2.2.1, (World.cell?_setCell_far _ ⟨w.heap.size + 1, 6, none⟩ ⟨wr.heap.size, 3, none⟩ v (by simp only; omega)).trans SC17.2.2.2⟩ : _ ∧ _ ∧ _ ∧ _)
            have SD17 := SD17 (.int .u32 6)
            go_wp2_with fail
            refine wp_region_held_drew (S := fun W => W.cell? ⟨wr.heap.size, 0, none⟩ = some (.int .i64 0) ∧ W.cell? ⟨wr.heap.size, 1, none⟩ = some (.int .i64 1) ∧ W.cell? ⟨wr.heap.size, 2, none⟩ = some (.int .i64 1) ∧ W.cell? ⟨wr.heap.size, 3, none⟩ = some (.int .i64 2)) (by kernel_rfl) (by exact SC17) (fun hS => ?_)
            refine wpAnyH_take (i := 0) (oi := { dst := some 78, op := Op.fieldAddr 75 (Operand.tmp 7) 1, type := 0, pos := "turn.go:61", after := #[], guard := none }) (v := .pointer (some ⟨wr.heap.size, 1, none⟩)) rfl (by kernel_rfl) (by kernel_rfl) (by kernel_rfl) (fun _ _ _ h => h) (Or.inl ⟨by kernel_rfl, fun W hSW => by go_simp⟩) hS ?_
            try simp only [Act.put, List.setIfInBounds_toArray, List.set_cons_zero, List.set_cons_succ]
            refine wpAnyH_take (i := 1) (oi := { dst := some 79, op := Op.load 3 (Operand.tmp 78), type := 3, pos := "turn.go:61", after := #[{ on := 0, ground := Ground.data }], guard := none }) (v := .int .i64 (1)) rfl (by kernel_rfl) (by kernel_rfl) (by kernel_rfl) (fun _ _ _ h => h) (Or.inl ⟨by kernel_rfl, fun W hSW => by obtain ⟨h0, h1, h2, h3⟩ := hSW; go_simp⟩) hS ?_
            try simp only [Act.put, List.setIfInBounds_toArray, List.set_cons_zero, List.set_cons_succ]
            refine wpAnyH_take (i := 2) (oi := { dst := some 80, op := Op.fieldAddr 75 (Operand.tmp 7) 0, type := 0, pos := "turn.go:61", after := #[], guard := none }) (v := .pointer (some ⟨wr.heap.size, 0, none⟩)) rfl (by kernel_rfl) (by kernel_rfl) (by kernel_rfl) (fun _ _ _ h => h) (Or.inl ⟨by kernel_rfl, fun W hSW => by go_simp⟩) hS ?_
            try simp only [Act.put, List.setIfInBounds_toArray, List.set_cons_zero, List.set_cons_succ]
            refine wpAnyH_take (i := 3) (oi := { dst := some 81, op := Op.load 3 (Operand.tmp 80), type := 3, pos := "turn.go:61", after := #[{ on := 2, ground := Ground.data }], guard := none }) (v := .int .i64 (0)) rfl (by kernel_rfl) (by kernel_rfl) (by kernel_rfl) (fun _ _ _ h => h) (Or.inl ⟨by kernel_rfl, fun W hSW => by obtain ⟨h0, h1, h2, h3⟩ := hSW; go_simp⟩) hS ?_
            try simp only [Act.put, List.setIfInBounds_toArray, List.set_cons_zero, List.set_cons_succ]
            refine wpAnyH_take (i := 4) (oi := { dst := some 82, op := Op.indexAddr 134 (Operand.tmp 3) (Operand.tmp 79), type := 0, pos := "turn.go:61", after := #[{ on := 1, ground := Ground.data }], guard := none }) (v := .pointer (some ⟨(w.heap.size + 1), 6, none⟩)) rfl (by kernel_rfl) (by kernel_rfl) (by kernel_rfl) (fun _ _ _ h => h) (Or.inl ⟨by kernel_rfl, fun W hSW => by go_simp⟩) hS ?_
            try simp only [Act.put, List.setIfInBounds_toArray, List.set_cons_zero, List.set_cons_succ]
            refine wpAnyH_take (i := 5) (oi := { dst := some 83, op := Op.indexAddr 133 (Operand.tmp 82) (Operand.tmp 81), type := 0, pos := "turn.go:61", after := #[{ on := 4, ground := Ground.data }, { on := 3, ground := Ground.data }], guard := none }) (v := .pointer (some ⟨(w.heap.size + 1), 6, none⟩)) rfl (by kernel_rfl) (by kernel_rfl) (by kernel_rfl) (fun _ _ _ h => h) (Or.inl ⟨by kernel_rfl, fun W hSW => by go_simp⟩) hS ?_
            try simp only [Act.put, List.setIfInBounds_toArray, List.set_cons_zero, List.set_cons_succ]
            refine wpAnyH_take (i := 7) (oi := { dst := some 85, op := Op.move (Operand.tmp 0), type := 92, pos := "turn.go:61", after := #[], guard := none }) (v := .pointer (some ⟨p, 0, none⟩)) rfl (by kernel_rfl) (by kernel_rfl) (by kernel_rfl) (fun _ _ _ h => h) (Or.inl ⟨by kernel_rfl, fun W hSW => by kernel_rfl⟩) hS ?_
            try simp only [Act.put, List.setIfInBounds_toArray, List.set_cons_zero, List.set_cons_succ]
            refine wpAnyH_take (i := 8) (oi := { dst := some 86, op := Op.fieldAddr 75 (Operand.tmp 7) 3, type := 0, pos := "turn.go:61", after := #[], guard := none }) (v := .pointer (some ⟨wr.heap.size, 3, none⟩)) rfl (by kernel_rfl) (by kernel_rfl) (by kernel_rfl) (fun _ _ _ h => h) (Or.inl ⟨by kernel_rfl, fun W hSW => by go_simp⟩) hS ?_
            try simp only [Act.put, List.setIfInBounds_toArray, List.set_cons_zero, List.set_cons_succ]
            refine wpAnyH_take (i := 9) (oi := { dst := some 87, op := Op.load 3 (Operand.tmp 86), type := 3, pos := "turn.go:61", after := #[{ on := 8, ground := Ground.data }], guard := none }) (v := .int .i64 (2)) rfl (by kernel_rfl) (by kernel_rfl) (by kernel_rfl) (fun _ _ _ h => h) (Or.inl ⟨by kernel_rfl, fun W hSW => by obtain ⟨h0, h1, h2, h3⟩ := hSW; go_simp⟩) hS ?_
            try simp only [Act.put, List.setIfInBounds_toArray, List.set_cons_zero, List.set_cons_succ]
            refine wpAnyH_take (i := 10) (oi := { dst := some 88, op := Op.fieldAddr 75 (Operand.tmp 7) 2, type := 0, pos := "turn.go:61", after := #[], guard := none }) (v := .pointer (some ⟨wr.heap.size, 2, none⟩)) rfl (by kernel_rfl) (by kernel_rfl) (by kernel_rfl) (fun _ _ _ h => h) (Or.inl ⟨by kernel_rfl, fun W hSW => by go_simp⟩) hS ?_
            try simp only [Act.put, List.setIfInBounds_toArray, List.set_cons_zero, List.set_cons_succ]
            refine wpAnyH_take (i := 11) (oi := { dst := some 89, op := Op.load 3 (Operand.tmp 88), type := 3, pos := "turn.go:61", after := #[{ on := 10, ground := Ground.data }], guard := none }) (v := .int .i64 (1)) rfl (by kernel_rfl) (by kernel_rfl) (by kernel_rfl) (fun _ _ _ h => h) (Or.inl ⟨by kernel_rfl, fun W hSW => by obtain ⟨h0, h1, h2, h3⟩ := hSW; go_simp⟩) hS ?_
            try simp only [Act.put, List.setIfInBounds_toArray, List.set_cons_zero, List.set_cons_succ]
            refine wpAnyH_take (i := 12) (oi := { dst := some 90, op := Op.binOp BinOp.sub 3 (Operand.tmp 87) (Operand.tmp 89) 3, type := 3, pos := "turn.go:61", after := #[{ on := 9, ground := Ground.data }, { on := 11, ground := Ground.data }], guard := none }) (v := .int .i64 (1)) rfl (by kernel_rfl) (by kernel_rfl) (by kernel_rfl) (fun _ _ _ h => h) (Or.inl ⟨by kernel_rfl, fun W hSW => by go_simp; rfl⟩) hS ?_
            try simp only [Act.put, List.setIfInBounds_toArray, List.set_cons_zero, List.set_cons_succ]
            refine wpAnyH_take (i := 13) (oi := { dst := some 91, op := Op.binOp BinOp.add 3 (Operand.tmp 90) (Operand.const (Value.int IntKind.i64 1)) 3, type := 3, pos := "turn.go:61", after := #[{ on := 12, ground := Ground.data }], guard := none }) (v := .int .i64 (2)) rfl (by kernel_rfl) (by kernel_rfl) (by kernel_rfl) (fun _ _ _ h => h) (Or.inl ⟨by kernel_rfl, fun W hSW => by go_simp; rfl⟩) hS ?_
            try simp only [Act.put, List.setIfInBounds_toArray, List.set_cons_zero, List.set_cons_succ]
            refine wpAnyH_take (i := 14) (oi := { dst := some 92, op := Op.binOp BinOp.shl 132 (Operand.const (Value.int IntKind.u32 1)) (Operand.tmp 91) 3, type := 132, pos := "turn.go:61", after := #[{ on := 13, ground := Ground.data }], guard := none }) (v := .int .u32 (4)) rfl (by kernel_rfl) (by kernel_rfl) (by kernel_rfl) (fun _ _ _ h => h) (Or.inl ⟨by kernel_rfl, fun W hSW => by go_simp; rfl⟩) hS ?_
            try simp only [Act.put, List.setIfInBounds_toArray, List.set_cons_zero, List.set_cons_succ]
            refine wpAnyH_take (i := 15) (oi := { dst := some 93, op := Op.binOp BinOp.sub 132 (Operand.tmp 92) (Operand.const (Value.int IntKind.u32 1)) 132, type := 132, pos := "turn.go:61", after := #[{ on := 14, ground := Ground.data }], guard := none }) (v := .int .u32 (3)) rfl (by kernel_rfl) (by kernel_rfl) (by kernel_rfl) (fun _ _ _ h => h) (Or.inl ⟨by kernel_rfl, fun W hSW => by go_simp; rfl⟩) hS ?_
            try simp only [Act.put, List.setIfInBounds_toArray, List.set_cons_zero, List.set_cons_succ]
            refine wpAnyH_take (i := 16) (oi := { dst := some 94, op := Op.fieldAddr 75 (Operand.tmp 7) 3, type := 0, pos := "turn.go:61", after := #[], guard := none }) (v := .pointer (some ⟨wr.heap.size, 3, none⟩)) rfl (by kernel_rfl) (by kernel_rfl) (by kernel_rfl) (fun _ _ _ h => h) (Or.inl ⟨by kernel_rfl, fun W hSW => by go_simp⟩) hS ?_
            try simp only [Act.put, List.setIfInBounds_toArray, List.set_cons_zero, List.set_cons_succ]
            refine wpAnyH_take (i := 17) (oi := { dst := some 95, op := Op.load 3 (Operand.tmp 94), type := 3, pos := "turn.go:61", after := #[{ on := 16, ground := Ground.data }], guard := none }) (v := .int .i64 (2)) rfl (by kernel_rfl) (by kernel_rfl) (by kernel_rfl) (fun _ _ _ h => h) (Or.inl ⟨by kernel_rfl, fun W hSW => by obtain ⟨h0, h1, h2, h3⟩ := hSW; go_simp⟩) hS ?_
            try simp only [Act.put, List.setIfInBounds_toArray, List.set_cons_zero, List.set_cons_succ]
            refine wpAnyH_take (i := 18) (oi := { dst := some 96, op := Op.unOp UnOp.neg 3 (Operand.tmp 95), type := 3, pos := "turn.go:61", after := #[{ on := 17, ground := Ground.data }], guard := none }) (v := .int .i64 (-2)) rfl (by kernel_rfl) (by kernel_rfl) (by kernel_rfl) (fun _ _ _ h => h) (Or.inl ⟨by kernel_rfl, fun W hSW => by go_simp; rfl⟩) hS ?_
            try simp only [Act.put, List.setIfInBounds_toArray, List.set_cons_zero, List.set_cons_succ]
            refine wpAnyH_take (i := 21) (oi := { dst := some 99, op := Op.indexAddr 134 (Operand.tmp 3) (Operand.tmp 79), type := 0, pos := "turn.go:61", after := #[{ on := 1, ground := Ground.data }], guard := none }) (v := .pointer (some ⟨(w.heap.size + 1), 6, none⟩)) rfl (by kernel_rfl) (by kernel_rfl) (by kernel_rfl) (fun _ _ _ h => h) (Or.inl ⟨by kernel_rfl, fun W hSW => by go_simp⟩) hS ?_
            try simp only [Act.put, List.setIfInBounds_toArray, List.set_cons_zero, List.set_cons_succ]
            refine wpAnyH_ready (rs := [6, 19]) (by kernel_rfl) (by simp) ?_
            refine AllReadyH.cons (o := { dst := some 84, op := Op.load 132 (Operand.tmp 83), type := 132, pos := "turn.go:61", after := #[{ on := 5, ground := Ground.data }], guard := none }) rfl (fun K hK => ?_) (AllReadyH.cons (o := { dst := some 97, op := Op.call { callee := Callee.value (Operand.func 95), args := #[Operand.tmp 85, Operand.tmp 93, Operand.tmp 96], argTypes := #[92, 132, 3] }, type := 132, pos := "turn.go:61", after := #[{ on := 7, ground := Ground.data }, { on := 15, ground := Ground.data }, { on := 18, ground := Ground.data }], guard := none }) rfl (fun K hK => ?_) AllReadyH.nil)
            · go_simp
              refine hK.out _ _ (hS) (fun hS => ?_)
              clear hK K
              try simp only [Act.put, List.setIfInBounds_toArray, List.set_cons_zero, List.set_cons_succ]
              refine wpAnyH_ready (rs := [19]) (by kernel_rfl) (by simp) ?_
              refine AllReadyH.cons (o := { dst := some 97, op := Op.call { callee := Callee.value (Operand.func 95), args := #[Operand.tmp 85, Operand.tmp 93, Operand.tmp 96], argTypes := #[92, 132, 3] }, type := 132, pos := "turn.go:61", after := #[{ on := 7, ground := Ground.data }, { on := 15, ground := Ground.data }, { on := 18, ground := Ground.data }], guard := none }) rfl (fun K hK => ?_) AllReadyH.nil
              go_simp
              refine Calls.mono (K95b.out _ (by exact PC17)) ?_
              rintro e w9 ⟨rfl, kk, rfl⟩
              refine hK.out _ _ (by exact SC17) (fun hS => ?_)
              clear hK K
              try simp only [Act.put, List.setIfInBounds_toArray, List.set_cons_zero, List.set_cons_succ]
              refine wpAnyH_take (i := 20) (oi := { dst := some 98, op := Op.binOp BinOp.and 132 (Operand.tmp 84) (Operand.tmp 97) 132, type := 132, pos := "turn.go:61", after := #[{ on := 6, ground := Ground.data }, { on := 19, ground := Ground.data }], guard := none }) (v := .int .u32 (6)) rfl (by kernel_rfl) (by kernel_rfl) (by kernel_rfl) (fun _ _ _ h => h) (Or.inl ⟨by kernel_rfl, fun W hSW => by go_simp; rfl⟩) hS ?_
              try simp only [Act.put, List.setIfInBounds_toArray, List.set_cons_zero, List.set_cons_succ]
              refine wpAnyH_take (i := 22) (oi := { dst := some 100, op := Op.indexAddr 133 (Operand.tmp 99) (Operand.tmp 81), type := 0, pos := "turn.go:61", after := #[{ on := 21, ground := Ground.data }, { on := 3, ground := Ground.data }, { on := 0, ground := Ground.phase }, { on := 1, ground := Ground.phase }, { on := 2, ground := Ground.phase }, { on := 3, ground := Ground.phase }, { on := 4, ground := Ground.phase }, { on := 5, ground := Ground.phase }, { on := 6, ground := Ground.phase }, { on := 7, ground := Ground.phase }, { on := 8, ground := Ground.phase }, { on := 9, ground := Ground.phase }, { on := 10, ground := Ground.phase }, { on := 11, ground := Ground.phase }, { on := 12, ground := Ground.phase }, { on := 13, ground := Ground.phase }, { on := 14, ground := Ground.phase }, { on := 15, ground := Ground.phase }, { on := 16, ground := Ground.phase }, { on := 17, ground := Ground.phase }, { on := 18, ground := Ground.phase }, { on := 19, ground := Ground.phase }, { on := 20, ground := Ground.phase }], guard := none }) (v := .pointer (some ⟨(w.heap.size + 1), 6, none⟩)) rfl (by kernel_rfl) (by kernel_rfl) (by kernel_rfl) (fun _ _ _ h => h) (Or.inl ⟨by kernel_rfl, fun W hSW => by go_simp⟩) hS ?_
              try simp only [Act.put, List.setIfInBounds_toArray, List.set_cons_zero, List.set_cons_succ]
              refine wpAnyH_ready (rs := [23]) (by kernel_rfl) (by simp) ?_
              refine AllReadyH.cons (o := { dst := none, op := Op.store 132 (Operand.tmp 100) (Operand.tmp 98), type := 0, pos := "turn.go:61", after := #[{ on := 22, ground := Ground.data }, { on := 20, ground := Ground.data }, { on := 19, ground := Ground.chain }, { on := 0, ground := Ground.phase }, { on := 1, ground := Ground.phase }, { on := 2, ground := Ground.phase }, { on := 3, ground := Ground.phase }, { on := 4, ground := Ground.phase }, { on := 5, ground := Ground.phase }, { on := 6, ground := Ground.phase }, { on := 7, ground := Ground.phase }, { on := 8, ground := Ground.phase }, { on := 9, ground := Ground.phase }, { on := 10, ground := Ground.phase }, { on := 11, ground := Ground.phase }, { on := 12, ground := Ground.phase }, { on := 13, ground := Ground.phase }, { on := 14, ground := Ground.phase }, { on := 15, ground := Ground.phase }, { on := 16, ground := Ground.phase }, { on := 17, ground := Ground.phase }, { on := 18, ground := Ground.phase }, { on := 19, ground := Ground.phase }, { on := 20, ground := Ground.phase }], guard := none }) rfl (fun K hK => ?_) AllReadyH.nil
              go_simp
              refine hK.out _ _ (by exact SD17) (fun hS => ?_)
              clear hK K
              try simp only [Act.put, List.setIfInBounds_toArray, List.set_cons_zero, List.set_cons_succ]
              refine wpAnyH_done (by kernel_rfl) ?_ _
              clear hv2 hf2 hv3 hf3
              go_wp2
              go_roundw
              case rel => exact ⟨1, by omega, rfl, Lib.hid ((N2b.out.set 6 6).congr fun x hx => (apF_end x hx).trans rfl), Lib.hid (N1b.out.far (p := ⟨w.heap.size + 1, 6, none⟩) (by simp only; omega) _), Lib.hid ((below_drewN ((below_drewN B1.out _).setCell (p := ⟨w.heap.size + 1, 1, none⟩) (Nat.le_succ _) _) _).setCell (p := ⟨w.heap.size + 1, 6, none⟩) (Nat.le_succ _) _)⟩
              case measure => simp [intOf]
            · go_simp
              refine Calls.mono (K95b.out _ (by exact PC17)) ?_
              rintro e w9 ⟨rfl, kk, rfl⟩
              refine hK.out _ _ (by exact SC17) (fun hS => ?_)
              clear hK K
              try simp only [Act.put, List.setIfInBounds_toArray, List.set_cons_zero, List.set_cons_succ]
              refine wpAnyH_ready (rs := [6]) (by kernel_rfl) (by simp) ?_
              refine AllReadyH.cons (o := { dst := some 84, op := Op.load 132 (Operand.tmp 83), type := 132, pos := "turn.go:61", after := #[{ on := 5, ground := Ground.data }], guard := none }) rfl (fun K hK => ?_) AllReadyH.nil
              go_simp
              refine hK.out _ _ (hS) (fun hS => ?_)
              clear hK K
              try simp only [Act.put, List.setIfInBounds_toArray, List.set_cons_zero, List.set_cons_succ]
              refine wpAnyH_take (i := 20) (oi := { dst := some 98, op := Op.binOp BinOp.and 132 (Operand.tmp 84) (Operand.tmp 97) 132, type := 132, pos := "turn.go:61", after := #[{ on := 6, ground := Ground.data }, { on := 19, ground := Ground.data }], guard := none }) (v := .int .u32 (6)) rfl (by kernel_rfl) (by kernel_rfl) (by kernel_rfl) (fun _ _ _ h => h) (Or.inl ⟨by kernel_rfl, fun W hSW => by go_simp; rfl⟩) hS ?_
              try simp only [Act.put, List.setIfInBounds_toArray, List.set_cons_zero, List.set_cons_succ]
              refine wpAnyH_take (i := 22) (oi := { dst := some 100, op := Op.indexAddr 133 (Operand.tmp 99) (Operand.tmp 81), type := 0, pos := "turn.go:61", after := #[{ on := 21, ground := Ground.data }, { on := 3, ground := Ground.data }, { on := 0, ground := Ground.phase }, { on := 1, ground := Ground.phase }, { on := 2, ground := Ground.phase }, { on := 3, ground := Ground.phase }, { on := 4, ground := Ground.phase }, { on := 5, ground := Ground.phase }, { on := 6, ground := Ground.phase }, { on := 7, ground := Ground.phase }, { on := 8, ground := Ground.phase }, { on := 9, ground := Ground.phase }, { on := 10, ground := Ground.phase }, { on := 11, ground := Ground.phase }, { on := 12, ground := Ground.phase }, { on := 13, ground := Ground.phase }, { on := 14, ground := Ground.phase }, { on := 15, ground := Ground.phase }, { on := 16, ground := Ground.phase }, { on := 17, ground := Ground.phase }, { on := 18, ground := Ground.phase }, { on := 19, ground := Ground.phase }, { on := 20, ground := Ground.phase }], guard := none }) (v := .pointer (some ⟨(w.heap.size + 1), 6, none⟩)) rfl (by kernel_rfl) (by kernel_rfl) (by kernel_rfl) (fun _ _ _ h => h) (Or.inl ⟨by kernel_rfl, fun W hSW => by go_simp⟩) hS ?_
              try simp only [Act.put, List.setIfInBounds_toArray, List.set_cons_zero, List.set_cons_succ]
              refine wpAnyH_ready (rs := [23]) (by kernel_rfl) (by simp) ?_
              refine AllReadyH.cons (o := { dst := none, op := Op.store 132 (Operand.tmp 100) (Operand.tmp 98), type := 0, pos := "turn.go:61", after := #[{ on := 22, ground := Ground.data }, { on := 20, ground := Ground.data }, { on := 19, ground := Ground.chain }, { on := 0, ground := Ground.phase }, { on := 1, ground := Ground.phase }, { on := 2, ground := Ground.phase }, { on := 3, ground := Ground.phase }, { on := 4, ground := Ground.phase }, { on := 5, ground := Ground.phase }, { on := 6, ground := Ground.phase }, { on := 7, ground := Ground.phase }, { on := 8, ground := Ground.phase }, { on := 9, ground := Ground.phase }, { on := 10, ground := Ground.phase }, { on := 11, ground := Ground.phase }, { on := 12, ground := Ground.phase }, { on := 13, ground := Ground.phase }, { on := 14, ground := Ground.phase }, { on := 15, ground := Ground.phase }, { on := 16, ground := Ground.phase }, { on := 17, ground := Ground.phase }, { on := 18, ground := Ground.phase }, { on := 19, ground := Ground.phase }, { on := 20, ground := Ground.phase }], guard := none }) rfl (fun K hK => ?_) AllReadyH.nil
              go_simp
              refine hK.out _ _ (by exact SD17) (fun hS => ?_)
              clear hK K
              try simp only [Act.put, List.setIfInBounds_toArray, List.set_cons_zero, List.set_cons_succ]
              refine wpAnyH_done (by kernel_rfl) ?_ _
              clear hv2 hf2 hv3 hf3
              go_wp2
              go_roundw
              case rel => exact ⟨1, by omega, rfl, Lib.hid ((N2b.out.set 6 6).congr fun x hx => (apF_end x hx).trans rfl), Lib.hid (N1b.out.far (p := ⟨w.heap.size + 1, 6, none⟩) (by simp only; omega) _), Lib.hid ((below_drewN ((below_drewN B1.out _).setCell (p := ⟨w.heap.size + 1, 1, none⟩) (Nat.le_succ _) _) _).setCell (p := ⟨w.heap.size + 1, 6, none⟩) (Nat.le_succ _) _)⟩
              case measure => simp [intOf]
          · go_simp
            refine Calls.mono (K95a.out _ (by exact PC16)) ?_
            rintro e w9 ⟨rfl, kk, rfl⟩
            refine hK.out _ _ (by exact SC16) (fun hS => ?_)
            clear hK K
            try simp only [Act.put, List.setIfInBounds_toArray, List.set_cons_zero, List.set_cons_succ]
            refine wpAnyH_ready (rs := [6]) (by kernel_rfl) (by simp) ?_
            refine AllReadyH.cons (o := { dst := some 62, op := Op.load 132 (Operand.tmp 61), type := 132, pos := "turn.go:60", after := #[{ on := 5, ground := Ground.data }], guard := none }) rfl (fun K hK => ?_) AllReadyH.nil
            go_simp
            refine hK.out _ _ (hS) (fun hS => ?_)
            clear hK K
            try simp only [Act.put, List.setIfInBounds_toArray, List.set_cons_zero, List.set_cons_succ]
            refine wpAnyH_take (i := 19) (oi := { dst := some 75, op := Op.binOp BinOp.and 132 (Operand.tmp 62) (Operand.tmp 74) 132, type := 132, pos := "turn.go:60", after := #[{ on := 6, ground := Ground.data }, { on := 18, ground := Ground.data }], guard := none }) (v := .int .u32 (6)) rfl (by kernel_rfl) (by kernel_rfl) (by kernel_rfl) (fun _ _ _ h => h) (Or.inl ⟨by kernel_rfl, fun W hSW => by go_simp; rfl⟩) hS ?_
            try simp only [Act.put, List.setIfInBounds_toArray, List.set_cons_zero, List.set_cons_succ]
            refine wpAnyH_take (i := 21) (oi := { dst := some 77, op := Op.indexAddr 133 (Operand.tmp 76) (Operand.tmp 59), type := 0, pos := "turn.go:60", after := #[{ on := 20, ground := Ground.data }, { on := 3, ground := Ground.data }, { on := 0, ground := Ground.phase }, { on := 1, ground := Ground.phase }, { on := 2, ground := Ground.phase }, { on := 3, ground := Ground.phase }, { on := 4, ground := Ground.phase }, { on := 5, ground := Ground.phase }, { on := 6, ground := Ground.phase }, { on := 7, ground := Ground.phase }, { on := 8, ground := Ground.phase }, { on := 9, ground := Ground.phase }, { on := 10, ground := Ground.phase }, { on := 11, ground := Ground.phase }, { on := 12, ground := Ground.phase }, { on := 13, ground := Ground.phase }, { on := 14, ground := Ground.phase }, { on := 15, ground := Ground.phase }, { on := 16, ground := Ground.phase }, { on := 17, ground := Ground.phase }, { on := 18, ground := Ground.phase }, { on := 19, ground := Ground.phase }], guard := none }) (v := .pointer (some ⟨(w.heap.size + 1), 1, none⟩)) rfl (by kernel_rfl) (by kernel_rfl) (by kernel_rfl) (fun _ _ _ h => h) (Or.inl ⟨by kernel_rfl, fun W hSW => by go_simp⟩) hS ?_
            try simp only [Act.put, List.setIfInBounds_toArray, List.set_cons_zero, List.set_cons_succ]
            refine wpAnyH_ready (rs := [22]) (by kernel_rfl) (by simp) ?_
            refine AllReadyH.cons (o := { dst := none, op := Op.store 132 (Operand.tmp 77) (Operand.tmp 75), type := 0, pos := "turn.go:60", after := #[{ on := 21, ground := Ground.data }, { on := 19, ground := Ground.data }, { on := 18, ground := Ground.chain }, { on := 0, ground := Ground.phase }, { on := 1, ground := Ground.phase }, { on := 2, ground := Ground.phase }, { on := 3, ground := Ground.phase }, { on := 4, ground := Ground.phase }, { on := 5, ground := Ground.phase }, { on := 6, ground := Ground.phase }, { on := 7, ground := Ground.phase }, { on := 8, ground := Ground.phase }, { on := 9, ground := Ground.phase }, { on := 10, ground := Ground.phase }, { on := 11, ground := Ground.phase }, { on := 12, ground := Ground.phase }, { on := 13, ground := Ground.phase }, { on := 14, ground := Ground.phase }, { on := 15, ground := Ground.phase }, { on := 16, ground := Ground.phase }, { on := 17, ground := Ground.phase }, { on := 18, ground := Ground.phase }, { on := 19, ground := Ground.phase }], guard := none }) rfl (fun K hK => ?_) AllReadyH.nil
            go_simp
            refine hK.out _ _ (by exact SD16) (fun hS => ?_)
            clear hK K
            try simp only [Act.put, List.setIfInBounds_toArray, List.set_cons_zero, List.set_cons_succ]
            refine wpAnyH_done (by kernel_rfl) ?_ _
            clear hv1 hf1
            have N2b : Hid (MatI ((wr.alloc (.cells #[.int .i64 0, .int .i64 1, .int .i64 1, .int .i64 2] 75)).setCell ⟨w.heap.size + 1, 1, none⟩ (.int .u32 6)) (w.heap.size + 1) fun x => if x = 1 then 6 else fJ 2 0 x) := Lib.hid (N2.out.set 1 6)
            have N1b : Hid (MatI ((wr.alloc (.cells #[.int .i64 0, .int .i64 1, .int .i64 1, .int .i64 2] 75)).setCell ⟨w.heap.size + 1, 1, none⟩ (.int .u32 6)) w.heap.size fun _ => 0) := Lib.hid (N1.out.far (p := ⟨w.heap.size + 1, 1, none⟩) (by simp only; omega) _)
            have B2 : Hid (Below w.heap.size w ((wr.alloc (.cells #[.int .i64 0, .int .i64 1, .int .i64 1, .int .i64 2] 75)).setCell ⟨w.heap.size + 1, 1, none⟩ (.int .u32 6))) := Lib.hid (B1.out.setCell (p := ⟨w.heap.size + 1, 1, none⟩) (Nat.le_succ _) _)
            have PC17 := (HP.out.below B2.out).t
            have hv2 : ((wr.alloc (.cells #[.int .i64 0, .int .i64 1, .int .i64 1, .int .i64 2] 75)).setCell ⟨w.heap.size + 1, 1, none⟩ (.int .u32 6)).cell? ⟨w.heap.size + 1, 6, none⟩ = some (.int .u32 7) := N2b.out.cell (i := 6) (by omega)
            have hf2 := N2b.out.frozen 6
            have hv3 : wr.cell? ⟨w.heap.size + 1, 6, none⟩ = some (.int .u32 7) := M2.out.cell (i := 6) (by omega)
            have hf3 := M2.out.frozen 6
            have SC17 := SD16
            have SD17 := fun (v : Value) => (⟨(World.cell?_setCell_far ((wr.alloc (.cells #[.int .i64 0, .int .i64 1, .int .i64 1, .int .i64 2] 75)).setCell ⟨w.heap.size + 1, 1, none⟩ (.int .u32 6)) ⟨w.heap.size + 1, 6, none⟩ ⟨wr.heap.size, 0, none⟩ v (by simp only; omega)).trans SC17.1, (World.cell?_setCell_far _ ⟨w.heap.size + 1, 6, none⟩ ⟨wr.heap.size, 1, none⟩ v (by simp only; omega)).trans SC17.2.1, (World.cell?_setCell_far _ ⟨w.heap.size + 1, 6, none⟩ ⟨wr.heap.size, 2, none⟩ v (by simp only; omega)).trans SC17.2.2.1, (World.cell?_setCell_far _ ⟨w.heap.size + 1, 6, none⟩ ⟨wr.heap.size, 3, none⟩ v (by simp only; omega)).trans SC17.2.2.2⟩ : _ ∧ _ ∧ _ ∧ _)
            have SD17 := SD17 (.int .u32 6)
            go_wp2_with fail
            refine wp_region_held_drew (S := fun W => W.cell? ⟨wr.heap.size, 0, none⟩ = some (.int .i64 0) ∧ W.cell? ⟨wr.heap.size, 1, none⟩ = some (.int .i64 1) ∧ W.cell? ⟨wr.heap.size, 2, none⟩ = some (.int .i64 1) ∧ W.cell? ⟨wr.heap.size, 3, none⟩ = some (.int .i64 2)) (by kernel_rfl) (by exact SC17) (fun hS => ?_)
            refine wpAnyH_take (i := 0) (oi := { dst := some 78, op := Op.fieldAddr 75 (Operand.tmp 7) 1, type := 0, pos := "turn.go:61", after := #[], guard := none }) (v := .pointer (some ⟨wr.heap.size, 1, none⟩)) rfl (by kernel_rfl) (by kernel_rfl) (by kernel_rfl) (fun _ _ _ h => h) (Or.inl ⟨by kernel_rfl, fun W hSW => by go_simp⟩) hS ?_
            try simp only [Act.put, List.setIfInBounds_toArray, List.set_cons_zero, List.set_cons_succ]
            refine wpAnyH_take (i := 1) (oi := { dst := some 79, op := Op.load 3 (Operand.tmp 78), type := 3, pos := "turn.go:61", after := #[{ on := 0, ground := Ground.data }], guard := none }) (v := .int .i64 (1)) rfl (by kernel_rfl) (by kernel_rfl) (by kernel_rfl) (fun _ _ _ h => h) (Or.inl ⟨by kernel_rfl, fun W hSW => by obtain ⟨h0, h1, h2, h3⟩ := hSW; go_simp⟩) hS ?_
            try simp only [Act.put, List.setIfInBounds_toArray, List.set_cons_zero, List.set_cons_succ]
            refine wpAnyH_take (i := 2) (oi := { dst := some 80, op := Op.fieldAddr 75 (Operand.tmp 7) 0, type := 0, pos := "turn.go:61", after := #[], guard := none }) (v := .pointer (some ⟨wr.heap.size, 0, none⟩)) rfl (by kernel_rfl) (by kernel_rfl) (by kernel_rfl) (fun _ _ _ h => h) (Or.inl ⟨by kernel_rfl, fun W hSW => by go_simp⟩) hS ?_
            try simp only [Act.put, List.setIfInBounds_toArray, List.set_cons_zero, List.set_cons_succ]
            refine wpAnyH_take (i := 3) (oi := { dst := some 81, op := Op.load 3 (Operand.tmp 80), type := 3, pos := "turn.go:61", after := #[{ on := 2, ground := Ground.data }], guard := none }) (v := .int .i64 (0)) rfl (by kernel_rfl) (by kernel_rfl) (by kernel_rfl) (fun _ _ _ h => h) (Or.inl ⟨by kernel_rfl, fun W hSW => by obtain ⟨h0, h1, h2, h3⟩ := hSW; go_simp⟩) hS ?_
            try simp only [Act.put, List.setIfInBounds_toArray, List.set_cons_zero, List.set_cons_succ]
            refine wpAnyH_take (i := 4) (oi := { dst := some 82, op := Op.indexAddr 134 (Operand.tmp 3) (Operand.tmp 79), type := 0, pos := "turn.go:61", after := #[{ on := 1, ground := Ground.data }], guard := none }) (v := .pointer (some ⟨(w.heap.size + 1), 6, none⟩)) rfl (by kernel_rfl) (by kernel_rfl) (by kernel_rfl) (fun _ _ _ h => h) (Or.inl ⟨by kernel_rfl, fun W hSW => by go_simp⟩) hS ?_
            try simp only [Act.put, List.setIfInBounds_toArray, List.set_cons_zero, List.set_cons_succ]
            refine wpAnyH_take (i := 5) (oi := { dst := some 83, op := Op.indexAddr 133 (Operand.tmp 82) (Operand.tmp 81), type := 0, pos := "turn.go:61", after := #[{ on := 4, ground := Ground.data }, { on := 3, ground := Ground.data }], guard := none }) (v := .pointer (some ⟨(w.heap.size + 1), 6, none⟩)) rfl (by kernel_rfl) (by kernel_rfl) (by kernel_rfl) (fun _ _ _ h => h) (Or.inl ⟨by kernel_rfl, fun W hSW => by go_simp⟩) hS ?_
            try simp only [Act.put, List.setIfInBounds_toArray, List.set_cons_zero, List.set_cons_succ]
            refine wpAnyH_take (i := 7) (oi := { dst := some 85, op := Op.move (Operand.tmp 0), type := 92, pos := "turn.go:61", after := #[], guard := none }) (v := .pointer (some ⟨p, 0, none⟩)) rfl (by kernel_rfl) (by kernel_rfl) (by kernel_rfl) (fun _ _ _ h => h) (Or.inl ⟨by kernel_rfl, fun W hSW => by kernel_rfl⟩) hS ?_
            try simp only [Act.put, List.setIfInBounds_toArray, List.set_cons_zero, List.set_cons_succ]
            refine wpAnyH_take (i := 8) (oi := { dst := some 86, op := Op.fieldAddr 75 (Operand.tmp 7) 3, type := 0, pos := "turn.go:61", after := #[], guard := none }) (v := .pointer (some ⟨wr.heap.size, 3, none⟩)) rfl (by kernel_rfl) (by kernel_rfl) (by kernel_rfl) (fun _ _ _ h => h) (Or.inl ⟨by kernel_rfl, fun W hSW => by go_simp⟩) hS ?_
            try simp only [Act.put, List.setIfInBounds_toArray, List.set_cons_zero, List.set_cons_succ]
            refine wpAnyH_take (i := 9) (oi := { dst := some 87, op := Op.load 3 (Operand.tmp 86), type := 3, pos := "turn.go:61", after := #[{ on := 8, ground := Ground.data }], guard := none }) (v := .int .i64 (2)) rfl (by kernel_rfl) (by kernel_rfl) (by kernel_rfl) (fun _ _ _ h => h) (Or.inl ⟨by kernel_rfl, fun W hSW => by obtain ⟨h0, h1, h2, h3⟩ := hSW; go_simp⟩) hS ?_
            try simp only [Act.put, List.setIfInBounds_toArray, List.set_cons_zero, List.set_cons_succ]
            refine wpAnyH_take (i := 10) (oi := { dst := some 88, op := Op.fieldAddr 75 (Operand.tmp 7) 2, type := 0, pos := "turn.go:61", after := #[], guard := none }) (v := .pointer (some ⟨wr.heap.size, 2, none⟩)) rfl (by kernel_rfl) (by kernel_rfl) (by kernel_rfl) (fun _ _ _ h => h) (Or.inl ⟨by kernel_rfl, fun W hSW => by go_simp⟩) hS ?_
            try simp only [Act.put, List.setIfInBounds_toArray, List.set_cons_zero, List.set_cons_succ]
            refine wpAnyH_take (i := 11) (oi := { dst := some 89, op := Op.load 3 (Operand.tmp 88), type := 3, pos := "turn.go:61", after := #[{ on := 10, ground := Ground.data }], guard := none }) (v := .int .i64 (1)) rfl (by kernel_rfl) (by kernel_rfl) (by kernel_rfl) (fun _ _ _ h => h) (Or.inl ⟨by kernel_rfl, fun W hSW => by obtain ⟨h0, h1, h2, h3⟩ := hSW; go_simp⟩) hS ?_
            try simp only [Act.put, List.setIfInBounds_toArray, List.set_cons_zero, List.set_cons_succ]
            refine wpAnyH_take (i := 12) (oi := { dst := some 90, op := Op.binOp BinOp.sub 3 (Operand.tmp 87) (Operand.tmp 89) 3, type := 3, pos := "turn.go:61", after := #[{ on := 9, ground := Ground.data }, { on := 11, ground := Ground.data }], guard := none }) (v := .int .i64 (1)) rfl (by kernel_rfl) (by kernel_rfl) (by kernel_rfl) (fun _ _ _ h => h) (Or.inl ⟨by kernel_rfl, fun W hSW => by go_simp; rfl⟩) hS ?_
            try simp only [Act.put, List.setIfInBounds_toArray, List.set_cons_zero, List.set_cons_succ]
            refine wpAnyH_take (i := 13) (oi := { dst := some 91, op := Op.binOp BinOp.add 3 (Operand.tmp 90) (Operand.const (Value.int IntKind.i64 1)) 3, type := 3, pos := "turn.go:61", after := #[{ on := 12, ground := Ground.data }], guard := none }) (v := .int .i64 (2)) rfl (by kernel_rfl) (by kernel_rfl) (by kernel_rfl) (fun _ _ _ h => h) (Or.inl ⟨by kernel_rfl, fun W hSW => by go_simp; rfl⟩) hS ?_
            try simp only [Act.put, List.setIfInBounds_toArray, List.set_cons_zero, List.set_cons_succ]
            refine wpAnyH_take (i := 14) (oi := { dst := some 92, op := Op.binOp BinOp.shl 132 (Operand.const (Value.int IntKind.u32 1)) (Operand.tmp 91) 3, type := 132, pos := "turn.go:61", after := #[{ on := 13, ground := Ground.data }], guard := none }) (v := .int .u32 (4)) rfl (by kernel_rfl) (by kernel_rfl) (by kernel_rfl) (fun _ _ _ h => h) (Or.inl ⟨by kernel_rfl, fun W hSW => by go_simp; rfl⟩) hS ?_
            try simp only [Act.put, List.setIfInBounds_toArray, List.set_cons_zero, List.set_cons_succ]
            refine wpAnyH_take (i := 15) (oi := { dst := some 93, op := Op.binOp BinOp.sub 132 (Operand.tmp 92) (Operand.const (Value.int IntKind.u32 1)) 132, type := 132, pos := "turn.go:61", after := #[{ on := 14, ground := Ground.data }], guard := none }) (v := .int .u32 (3)) rfl (by kernel_rfl) (by kernel_rfl) (by kernel_rfl) (fun _ _ _ h => h) (Or.inl ⟨by kernel_rfl, fun W hSW => by go_simp; rfl⟩) hS ?_
            try simp only [Act.put, List.setIfInBounds_toArray, List.set_cons_zero, List.set_cons_succ]
            refine wpAnyH_take (i := 16) (oi := { dst := some 94, op := Op.fieldAddr 75 (Operand.tmp 7) 3, type := 0, pos := "turn.go:61", after := #[], guard := none }) (v := .pointer (some ⟨wr.heap.size, 3, none⟩)) rfl (by kernel_rfl) (by kernel_rfl) (by kernel_rfl) (fun _ _ _ h => h) (Or.inl ⟨by kernel_rfl, fun W hSW => by go_simp⟩) hS ?_
            try simp only [Act.put, List.setIfInBounds_toArray, List.set_cons_zero, List.set_cons_succ]
            refine wpAnyH_take (i := 17) (oi := { dst := some 95, op := Op.load 3 (Operand.tmp 94), type := 3, pos := "turn.go:61", after := #[{ on := 16, ground := Ground.data }], guard := none }) (v := .int .i64 (2)) rfl (by kernel_rfl) (by kernel_rfl) (by kernel_rfl) (fun _ _ _ h => h) (Or.inl ⟨by kernel_rfl, fun W hSW => by obtain ⟨h0, h1, h2, h3⟩ := hSW; go_simp⟩) hS ?_
            try simp only [Act.put, List.setIfInBounds_toArray, List.set_cons_zero, List.set_cons_succ]
            refine wpAnyH_take (i := 18) (oi := { dst := some 96, op := Op.unOp UnOp.neg 3 (Operand.tmp 95), type := 3, pos := "turn.go:61", after := #[{ on := 17, ground := Ground.data }], guard := none }) (v := .int .i64 (-2)) rfl (by kernel_rfl) (by kernel_rfl) (by kernel_rfl) (fun _ _ _ h => h) (Or.inl ⟨by kernel_rfl, fun W hSW => by go_simp; rfl⟩) hS ?_
            try simp only [Act.put, List.setIfInBounds_toArray, List.set_cons_zero, List.set_cons_succ]
            refine wpAnyH_take (i := 21) (oi := { dst := some 99, op := Op.indexAddr 134 (Operand.tmp 3) (Operand.tmp 79), type := 0, pos := "turn.go:61", after := #[{ on := 1, ground := Ground.data }], guard := none }) (v := .pointer (some ⟨(w.heap.size + 1), 6, none⟩)) rfl (by kernel_rfl) (by kernel_rfl) (by kernel_rfl) (fun _ _ _ h => h) (Or.inl ⟨by kernel_rfl, fun W hSW => by go_simp⟩) hS ?_
            try simp only [Act.put, List.setIfInBounds_toArray, List.set_cons_zero, List.set_cons_succ]
            refine wpAnyH_ready (rs := [6, 19]) (by kernel_rfl) (by simp) ?_
            refine AllReadyH.cons (o := { dst := some 84, op := Op.load 132 (Operand.tmp 83), type := 132, pos := "turn.go:61", after := #[{ on := 5, ground := Ground.data }], guard := none }) rfl (fun K hK => ?_) (AllReadyH.cons (o := { dst := some 97, op := Op.call { callee := Callee.value (Operand.func 95), args := #[Operand.tmp 85, Operand.tmp 93, Operand.tmp 96], argTypes := #[92, 132, 3] }, type := 132, pos := "turn.go:61", after := #[{ on := 7, ground := Ground.data }, { on := 15, ground := Ground.data }, { on := 18, ground := Ground.data }], guard := none }) rfl (fun K hK => ?_) AllReadyH.nil)
            · go_simp
              refine hK.out _ _ (hS) (fun hS => ?_)
              clear hK K
              try simp only [Act.put, List.setIfInBounds_toArray, List.set_cons_zero, List.set_cons_succ]
              refine wpAnyH_ready (rs := [19]) (by kernel_rfl) (by simp) ?_
              refine AllReadyH.cons (o := { dst := some 97, op := Op.call { callee := Callee.value (Operand.func 95), args := #[Operand.tmp 85, Operand.tmp 93, Operand.tmp 96], argTypes := #[92, 132, 3] }, type := 132, pos := "turn.go:61", after := #[{ on := 7, ground := Ground.data }, { on := 15, ground := Ground.data }, { on := 18, ground := Ground.data }], guard := none }) rfl (fun K hK => ?_) AllReadyH.nil
              go_simp
              refine Calls.mono (K95b.out _ (by exact PC17)) ?_
              rintro e w9 ⟨rfl, kk, rfl⟩
              refine hK.out _ _ (by exact SC17) (fun hS => ?_)
              clear hK K
              try simp only [Act.put, List.setIfInBounds_toArray, List.set_cons_zero, List.set_cons_succ]
              refine wpAnyH_take (i := 20) (oi := { dst := some 98, op := Op.binOp BinOp.and 132 (Operand.tmp 84) (Operand.tmp 97) 132, type := 132, pos := "turn.go:61", after := #[{ on := 6, ground := Ground.data }, { on := 19, ground := Ground.data }], guard := none }) (v := .int .u32 (6)) rfl (by kernel_rfl) (by kernel_rfl) (by kernel_rfl) (fun _ _ _ h => h) (Or.inl ⟨by kernel_rfl, fun W hSW => by go_simp; rfl⟩) hS ?_
              try simp only [Act.put, List.setIfInBounds_toArray, List.set_cons_zero, List.set_cons_succ]
              refine wpAnyH_take (i := 22) (oi := { dst := some 100, op := Op.indexAddr 133 (Operand.tmp 99) (Operand.tmp 81), type := 0, pos := "turn.go:61", after := #[{ on := 21, ground := Ground.data }, { on := 3, ground := Ground.data }, { on := 0, ground := Ground.phase }, { on := 1, ground := Ground.phase }, { on := 2, ground := Ground.phase }, { on := 3, ground := Ground.phase }, { on := 4, ground := Ground.phase }, { on := 5, ground := Ground.phase }, { on := 6, ground := Ground.phase }, { on := 7, ground := Ground.phase }, { on := 8, ground := Ground.phase }, { on := 9, ground := Ground.phase }, { on := 10, ground := Ground.phase }, { on := 11, ground := Ground.phase }, { on := 12, ground := Ground.phase }, { on := 13, ground := Ground.phase }, { on := 14, ground := Ground.phase }, { on := 15, ground := Ground.phase }, { on := 16, ground := Ground.phase }, { on := 17, ground := Ground.phase }, { on := 18, ground := Ground.phase }, { on := 19, ground := Ground.phase }, { on := 20, ground := Ground.phase }], guard := none }) (v := .pointer (some ⟨(w.heap.size + 1), 6, none⟩)) rfl (by kernel_rfl) (by kernel_rfl) (by kernel_rfl) (fun _ _ _ h => h) (Or.inl ⟨by kernel_rfl, fun W hSW => by go_simp⟩) hS ?_
              try simp only [Act.put, List.setIfInBounds_toArray, List.set_cons_zero, List.set_cons_succ]
              refine wpAnyH_ready (rs := [23]) (by kernel_rfl) (by simp) ?_
              refine AllReadyH.cons (o := { dst := none, op := Op.store 132 (Operand.tmp 100) (Operand.tmp 98), type := 0, pos := "turn.go:61", after := #[{ on := 22, ground := Ground.data }, { on := 20, ground := Ground.data }, { on := 19, ground := Ground.chain }, { on := 0, ground := Ground.phase }, { on := 1, ground := Ground.phase }, { on := 2, ground := Ground.phase }, { on := 3, ground := Ground.phase }, { on := 4, ground := Ground.phase }, { on := 5, ground := Ground.phase }, { on := 6, ground := Ground.phase }, { on := 7, ground := Ground.phase }, { on := 8, ground := Ground.phase }, { on := 9, ground := Ground.phase }, { on := 10, ground := Ground.phase }, { on := 11, ground := Ground.phase }, { on := 12, ground := Ground.phase }, { on := 13, ground := Ground.phase }, { on := 14, ground := Ground.phase }, { on := 15, ground := Ground.phase }, { on := 16, ground := Ground.phase }, { on := 17, ground := Ground.phase }, { on := 18, ground := Ground.phase }, { on := 19, ground := Ground.phase }, { on := 20, ground := Ground.phase }], guard := none }) rfl (fun K hK => ?_) AllReadyH.nil
              go_simp
              refine hK.out _ _ (by exact SD17) (fun hS => ?_)
              clear hK K
              try simp only [Act.put, List.setIfInBounds_toArray, List.set_cons_zero, List.set_cons_succ]
              refine wpAnyH_done (by kernel_rfl) ?_ _
              clear hv2 hf2 hv3 hf3
              go_wp2
              go_roundw
              case rel => exact ⟨1, by omega, rfl, Lib.hid ((N2b.out.set 6 6).congr fun x hx => (apF_end x hx).trans rfl), Lib.hid (N1b.out.far (p := ⟨w.heap.size + 1, 6, none⟩) (by simp only; omega) _), Lib.hid ((below_drewN ((below_drewN B1.out _).setCell (p := ⟨w.heap.size + 1, 1, none⟩) (Nat.le_succ _) _) _).setCell (p := ⟨w.heap.size + 1, 6, none⟩) (Nat.le_succ _) _)⟩
              case measure => simp [intOf]
            · go_simp
              refine Calls.mono (K95b.out _ (by exact PC17)) ?_
              rintro e w9 ⟨rfl, kk, rfl⟩
              refine hK.out _ _ (by exact SC17) (fun hS => ?_)
              clear hK K
              try simp only [Act.put, List.setIfInBounds_toArray, List.set_cons_zero, List.set_cons_succ]
              refine wpAnyH_ready (rs := [6]) (by kernel_rfl) (by simp) ?_
              refine AllReadyH.cons (o := { dst := some 84, op := Op.load 132 (Operand.tmp 83), type := 132, pos := "turn.go:61", after := #[{ on := 5, ground := Ground.data }], guard := none }) rfl (fun K hK => ?_) AllReadyH.nil
              go_simp
              refine hK.out _ _ (hS) (fun hS => ?_)
              clear hK K
              try simp only [Act.put, List.setIfInBounds_toArray, List.set_cons_zero, List.set_cons_succ]
              refine wpAnyH_take (i := 20) (oi := { dst := some 98, op := Op.binOp BinOp.and 132 (Operand.tmp 84) (Operand.tmp 97) 132, type := 132, pos := "turn.go:61", after := #[{ on := 6, ground := Ground.data }, { on := 19, ground := Ground.data }], guard := none }) (v := .int .u32 (6)) rfl (by kernel_rfl) (by kernel_rfl) (by kernel_rfl) (fun _ _ _ h => h) (Or.inl ⟨by kernel_rfl, fun W hSW => by go_simp; rfl⟩) hS ?_
              try simp only [Act.put, List.setIfInBounds_toArray, List.set_cons_zero, List.set_cons_succ]
              refine wpAnyH_take (i := 22) (oi := { dst := some 100, op := Op.indexAddr 133 (Operand.tmp 99) (Operand.tmp 81), type := 0, pos := "turn.go:61", after := #[{ on := 21, ground := Ground.data }, { on := 3, ground := Ground.data }, { on := 0, ground := Ground.phase }, { on := 1, ground := Ground.phase }, { on := 2, ground := Ground.phase }, { on := 3, ground := Ground.phase }, { on := 4, ground := Ground.phase }, { on := 5, ground := Ground.phase }, { on := 6, ground := Ground.phase }, { on := 7, ground := Ground.phase }, { on := 8, ground := Ground.phase }, { on := 9, ground := Ground.phase }, { on := 10, ground := Ground.phase }, { on := 11, ground := Ground.phase }, { on := 12, ground := Ground.phase }, { on := 13, ground := Ground.phase }, { on := 14, ground := Ground.phase }, { on := 15, ground := Ground.phase }, { on := 16, ground := Ground.phase }, { on := 17, ground := Ground.phase }, { on := 18, ground := Ground.phase }, { on := 19, ground := Ground.phase }, { on := 20, ground := Ground.phase }], guard := none }) (v := .pointer (some ⟨(w.heap.size + 1), 6, none⟩)) rfl (by kernel_rfl) (by kernel_rfl) (by kernel_rfl) (fun _ _ _ h => h) (Or.inl ⟨by kernel_rfl, fun W hSW => by go_simp⟩) hS ?_
              try simp only [Act.put, List.setIfInBounds_toArray, List.set_cons_zero, List.set_cons_succ]
              refine wpAnyH_ready (rs := [23]) (by kernel_rfl) (by simp) ?_
              refine AllReadyH.cons (o := { dst := none, op := Op.store 132 (Operand.tmp 100) (Operand.tmp 98), type := 0, pos := "turn.go:61", after := #[{ on := 22, ground := Ground.data }, { on := 20, ground := Ground.data }, { on := 19, ground := Ground.chain }, { on := 0, ground := Ground.phase }, { on := 1, ground := Ground.phase }, { on := 2, ground := Ground.phase }, { on := 3, ground := Ground.phase }, { on := 4, ground := Ground.phase }, { on := 5, ground := Ground.phase }, { on := 6, ground := Ground.phase }, { on := 7, ground := Ground.phase }, { on := 8, ground := Ground.phase }, { on := 9, ground := Ground.phase }, { on := 10, ground := Ground.phase }, { on := 11, ground := Ground.phase }, { on := 12, ground := Ground.phase }, { on := 13, ground := Ground.phase }, { on := 14, ground := Ground.phase }, { on := 15, ground := Ground.phase }, { on := 16, ground := Ground.phase }, { on := 17, ground := Ground.phase }, { on := 18, ground := Ground.phase }, { on := 19, ground := Ground.phase }, { on := 20, ground := Ground.phase }], guard := none }) rfl (fun K hK => ?_) AllReadyH.nil
              go_simp
              refine hK.out _ _ (by exact SD17) (fun hS => ?_)
              clear hK K
              try simp only [Act.put, List.setIfInBounds_toArray, List.set_cons_zero, List.set_cons_succ]
              refine wpAnyH_done (by kernel_rfl) ?_ _
              clear hv2 hf2 hv3 hf3
              go_wp2
              go_roundw
              case rel => exact ⟨1, by omega, rfl, Lib.hid ((N2b.out.set 6 6).congr fun x hx => (apF_end x hx).trans rfl), Lib.hid (N1b.out.far (p := ⟨w.heap.size + 1, 6, none⟩) (by simp only; omega) _), Lib.hid ((below_drewN ((below_drewN B1.out _).setCell (p := ⟨w.heap.size + 1, 1, none⟩) (Nat.le_succ _) _) _).setCell (p := ⟨w.heap.size + 1, 6, none⟩) (Nat.le_succ _) _)⟩
              case measure => simp [intOf]
        · have k1e : k = 1 := by omega
          have M2 : Hid (MatI wr (w.heap.size + 1) fun x => (apN x : Int)) := Lib.hid (by have := M2.out; rw [if_neg hk0] at this; exact this.congr apF_apN)
          have k0 : (0 : Int) ≤ (k : Int) := by omega
          have k2 : ¬ (k : Int) < 1 := by omega
          clear hk hk0 k1e
          have q0 := (HP.out.below B.out).t
          have q1 := (HP.out.below B.out).n
          have q2 := (HP.out.below B.out).s
          go_wp2
          clear q0 q1 q2
          go_loopw [8] (fun cv wr => ∃ c : Bool, cv = .bool c ∧ Hid (MatI wr (w.heap.size + 1) fun x => (apN x : Int)) ∧ Hid (MatI wr w.heap.size fun _ => 0) ∧ Hid (Below w.heap.size w wr)) (fun cv _ => match cv with | .bool true => 1 | _ => 0)
          case atStart => exact ⟨true, rfl, M2, M1, B⟩
          case round => as_aux_lemma =>
            obtain ⟨c, rfl, M2, M1, B⟩ := hrel
            have q0 := (HP.out.below B.out).t
            have q1 := (HP.out.below B.out).n
            cases c
            · have hR : wr.rangeAt (w.heap.size + 1) 0 matV := M2.out.range
              clear q0 q1
              have hT := M1.out.there
              go_wp2_with (first | refine wpList_load_mid rfl 134 (.tmp 3) rfl (w.heap.size + 1) 0 rfl matV _ hR hund rfl hinf ?_ | refine wpList_store_mid rfl 134 (.tmp 2) (.tmp 171) rfl w.heap.size 0 matV.toArray rfl rfl hT hinf2 hone ?_)
              refine bodyPost_ret (v := .agg matV.toArray) ?_ rfl ?_
              · exact results_cell_mid (g := w.heap.size) rfl _ _ matV _ rfl (World.rangeAt_setCells_same _ _ _ _ (by simpa using hT)) hund rfl hinf
              · exact ⟨rfl, below_sets (Nat.le_refl _) matV 0 B.out⟩
            · go_wp2
              go_loopw [8, 107] (fun cv kv wr => ∃ kk : Nat, kk ≤ 2 ∧ cv = .bool false ∧ kv = .int .i64 (kk : Int) ∧ Hid (MatI wr (w.heap.size + 1) fun x => (apN x : Int)) ∧ Hid (MatI wr w.heap.size fun _ => 0) ∧ Hid (Below w.heap.size w wr)) (fun _ kv _ => 2 - (intOf kv).toNat)
              case atStart => exact ⟨0, by omega, rfl, rfl, M2, M1, B⟩
              case round => as_aux_lemma =>
                obtain ⟨kk, hkk, rfl, rfl, M2, M1, B⟩ := hrel
                have q0 := (HP.out.below B.out).t
                have q1 := (HP.out.below B.out).n
                have kk0 : (0 : Int) ≤ (kk : Int) := by omega
                by_cases hkk2 : kk < 2
                · have kk2 : (kk : Int) < 2 := by omega
                  go_wp2
                  go_loopw [8, 114] (fun cv kv wr => ∃ ii : Nat, ii ≤ 2 ∧ cv = .bool false ∧ kv = .int .i64 (ii : Int) ∧ Hid (MatI wr (w.heap.size + 1) fun x => (apN x : Int)) ∧ Hid (MatI wr w.heap.size fun _ => 0) ∧ Hid (Below w.heap.size w wr)) (fun _ kv _ => 2 - (intOf kv).toNat)
                  case atStart => exact ⟨0, by omega, rfl, rfl, M2, M1, B⟩
                  case round => as_aux_lemma =>
                    obtain ⟨ii, hii, rfl, rfl, M2, M1, B⟩ := hrel
                    have q0 := (HP.out.below B.out).t
                    have q1 := (HP.out.below B.out).n
                    have ii0 : (0 : Int) ≤ (ii : Int) := by omega
                    by_cases hii2 : ii < 2
                    · have ii2 : (ii : Int) < 2 := by omega
                      go_wp2
                      go_loopw [8, 121] (fun cv kv wr => ∃ jj : Nat, jj ≤ 2 ∧ cv = .bool false ∧ kv = .int .i64 (jj : Int) ∧ Hid (MatI wr (w.heap.size + 1) fun x => (apN x : Int)) ∧ Hid (MatI wr w.heap.size fun _ => 0) ∧ Hid (Below w.heap.size w wr)) (fun _ kv _ => 2 - (intOf kv).toNat)
                      case atStart => exact ⟨0, by omega, rfl, rfl, M2, M1, B⟩
                      case round => as_aux_lemma =>
                        obtain ⟨jj, hjj, rfl, rfl, M2, M1, B⟩ := hrel
                        have q0 := (HP.out.below B.out).t
                        have q1 := (HP.out.below B.out).n
                        have jj0 : (0 : Int) ≤ (jj : Int) := by omega
                        by_cases hjj2 : jj < 2
                        · have jj2 : (jj : Int) < 2 := by omega
                          go_wp2
                          go_loopw [12, 128] (fun bv hv wr => ∃ h : Nat, h ≤ 3 ∧ hv = .int .i64 (h : Int) ∧ bv = .int .u32 (bF kk ii jj h : Int) ∧ Hid (MatI wr (w.heap.size + 1) fun x => (apN x : Int)) ∧ Hid (MatI wr w.heap.size fun _ => 0) ∧ Hid (Below w.heap.size w wr)) (fun _ hv _ => 3 - (intOf hv).toNat)
                          case atStart => exact ⟨0, by omega, rfl, rfl, M2, M1, B⟩
                          case round => as_aux_lemma =>
                            obtain ⟨h, hh, rfl, rfl, M2, M1, B⟩ := hrel
                            have q0 := (HP.out.below B.out).t
                            have h0 : (0 : Int) ≤ (h : Int) := by omega
                            by_cases hh3 : h < 3
                            · have h3 : (h : Int) < 3 := by omega
                              have hc1 := M2.out.cell (i := ii * 6 + kk) (by omega)
                              have hc2 := M2.out.cell (i := kk * 6 + jj) (by omega)
                              have ii6 : (ii : Int) < 6 := by omega
                              have kk6 : (kk : Int) < 6 := by omega
                              have jj6 : (jj : Int) < 6 := by omega
                              have hth : (h : Int).tmod 3 = (h : Int) ∧ ((h : Int) + 3).tmod 3 = (h : Int) := by
                                have : h = 0 ∨ h = 1 ∨ h = 2 := by omega
                                rcases this with rfl | rfl | rfl <;> exact ⟨rfl, rfl⟩
                              have K95 : Hid (∀ W, W.cell? ⟨p, 0, none⟩ = some (.int .i64 3) → Calls Tryz.prog 95 #[.pointer (some ⟨p, 0, none⟩), .int .u32 (apN (kk * 6 + jj) : Int), .int .i64 (h : Int)] W fun e w' => e = .returned (.int .u32 (turnV (apN (kk * 6 + jj)) h : Int)) ∧ ∃ k, w' = W.drewN k) := Lib.hid fun W hW => f95_any p (apN (kk * 6 + jj)) h h h W (apN_lt _ (by omega)) hW hth.1 (by omega) hth.2 (by omega)
                              clear hth
                              have hor := bF_or kk hkk2 ii hii2 jj hjj2 h hh3
                              have hbit := bF_bit kk hkk2 ii hii2 h hh3
                              have hst : Hid (bF kk ii jj (h + 1) = if (apN (ii * 6 + kk)).testBit h then bF kk ii jj h ||| turnV (apN (kk * 6 + jj)) h else bF kk ii jj h) := Lib.hid rfl
                              generalize (apN (ii * 6 + kk)).testBit h = tb at hbit hst
                              cases tb
                              · rw [if_neg (by simp)] at hst
                                go_wp2_with fail
                                go_quiet (fail)
                                go_wp2
                                go_roundw
                                case rel => exact ⟨h + 1, by omega, by go_num, by rw [hst.out], M2, M1, Lib.hid (below_drewN B.out _)⟩
                                case measure => simp [intOf]; omega
                              · rw [if_pos rfl] at hst
                                go_wp2_with fail
                                go_quiet (fail)
                                go_wp2_with fail
                                refine Calls.mono (K95.out _ (by exact q0)) ?_
                                rintro e w9 ⟨rfl, k9, rfl⟩
                                go_wp2
                                go_roundw
                                case rel => exact ⟨h + 1, by omega, by go_num, by rw [hst.out], M2, M1, Lib.hid (below_drewN B.out _)⟩
                                case measure => simp [intOf]; omega
                            · have h3 : ¬ (h : Int) < 3 := by omega
                              have h3e : h = 3 := by omega
                              have hc3 := M2.out.cell (i := ii * 6 + jj) (by omega)
                              have ii6 : (ii : Int) < 6 := by omega
                              have jj6 : (jj : Int) < 6 := by omega
                              have hand := bF_end kk hkk2 ii hii2 jj hjj2
                              go_wp2
                              go_roundw
                              case rel => exact ⟨jj + 1, by omega, rfl, by go_num, M2, M1, B⟩
                              case measure => simp [intOf]; omega
                        · have jj2 : ¬ (jj : Int) < 2 := by omega
                          go_wp2
                          go_roundw
                          case rel => exact ⟨ii + 1, by omega, rfl, by go_num, M2, M1, B⟩
                          case measure => simp [intOf]; omega
                    · have ii2 : ¬ (ii : Int) < 2 := by omega
                      go_wp2
                      go_roundw
                      case rel => exact ⟨kk + 1, by omega, rfl, by go_num, M2, M1, B⟩
                      case measure => simp [intOf]; omega
                · have kk2 : ¬ (kk : Int) < 2 := by omega
                  go_wp2
                  go_roundw
                  case rel => exact ⟨false, rfl, M2, M1, B⟩
                  case measure => simp
end Go.Proofs.YtmepndnckcpgjaaGreat

namespace Go.Proofs.YtmepndnckcpgjaaGreat
open Go.RowKit
/-- append of one number to a slice that has room. -/
theorem wpList_room {w : World} {ops : Array Oper} {rest : List Oper} {o : Oper} {a : Act} {Q : Exit → Act → World → Prop} (hgd : o.guard = none) (s x : Operand)
    (ho : o.op = .call { callee := .builtin .append, args := #[s, x], argTypes := #[23, 23] })
    (g n cap : Nat) (hs : a.eval s = .slice (some ⟨g, 0, none⟩) n cap) (q c : Nat) (y : Int) (hx : a.eval x = .slice (some ⟨q, 0, none⟩) 1 c)
    (hc : w.cell? ⟨q, 0, none⟩ = some (.int .i64 y)) (hr : n + 1 ≤ cap) (h1 : (w.cell? ⟨g, n, none⟩).isSome = true) (h2 : w.frozen? ⟨g, n, none⟩ = false)
    (h : wpList Tryz.prog ops Q rest (a.put o.dst (.slice (some ⟨g, 0, none⟩) (n + 1) cap)) (w.setCell ⟨g, n, none⟩ (.int .i64 y))) : wpList Tryz.prog ops Q (o :: rest) a w := by
  obtain ⟨i0, hi0, hz0, hz1, hz2⟩ := info_parts (show (Tryz.prog.info? 3).map (fun i => (i.zero, i.size, i.bytes)) = some (some (.int .i64 0), 1, 8) from by kernel_rfl)
  refine wpList_plain hgd fun K hK' => ?_
  have hrun := run_append_room_cells (P := Tryz.prog) w 23 o.type 3 i0 Tryz.underlying23 hi0 g 0 n cap ⟨q, 0, none⟩ 1 c [.int .i64 y] (by rw [hz1]; rfl) (fun j u hj => by
    match j, hj with
    | 0, hj => simp at hj; subst hj; simpa [Addr.add] using hc) (fun u hu => by simp at hu; subst hu; rfl) hr
    (fun j hj => by
      have : j = 0 := by simpa using hj
      subst this
      simpa [hz1] using h1) (fun j hj => by
      have : j = 0 := by simpa using hj
      subst this
      simpa [hz1] using h2)
  unfold Oper.wp
  simp [execOp, ho, resolve, invoke, builtin, hs, hx, hrun, Result.andThen]
  refine hK' _ _ ?_
  simpa [hz1, World.setCells] using h
/-- A store into an old cell, made in both worlds. -/
theorem below_both {n : Nat} {W W2 : World} (h : Below n W W2) {p : Addr} (v : Value) : Below n (W.setCell p v) (W2.setCell p v) :=
  ⟨h.os, h.tape, h.output, by simpa [World.setCell] using h.size, fun i hi => by simp only [World.setCell, Array.getElem?_modify, h.block i hi]⟩
section
variable (p mb pv vv ap hb hv ov : Nat)
/-- What each works with. -/
structure TS (W : World) (m : Int) (len : Nat) : Prop where
  ord : p < mb ∧ mb < pv ∧ pv < vv ∧ vv < ap ∧ ap < hb ∧ hb < hv ∧ hv < ov
  p0 : W.cell? ⟨p, 0, none⟩ = some (.int .i64 3)
  p1 : W.cell? ⟨p, 1, none⟩ = some (.int .i64 2)
  cm : W.cell? ⟨mb, 0, none⟩ = some (.int .i64 m)
  cmf : W.frozen? ⟨mb, 0, none⟩ = false
  cpv : W.cell? ⟨pv, 0, none⟩ = some (.pointer (some ⟨p, 0, none⟩))
  cvv : W.cell? ⟨vv, 0, none⟩ = some (.func (.func 62) #[] #[.pointer (some ⟨mb, 0, none⟩)])
  cap : MatI W ap fun x => (apN x : Int)
  chv : W.cell? ⟨hv, 0, none⟩ = some (.slice (some ⟨hb, 0, none⟩) len 2)
  chf : W.frozen? ⟨hv, 0, none⟩ = false
  b0 : ∃ x, W.cell? ⟨hb, 0, none⟩ = some (.int .i64 x)
  b1 : ∃ x, W.cell? ⟨hb, 1, none⟩ = some (.int .i64 x)
  f1 : W.frozen? ⟨hb, 1, none⟩ = false
  cov : W.cell? ⟨ov, 0, none⟩ = some (.func (.func 93) #[] #[.pointer (some ⟨hv, 0, none⟩), .pointer (some ⟨pv, 0, none⟩), .pointer (some ⟨vv, 0, none⟩), .pointer (some ⟨ap, 0, none⟩), .pointer (some ⟨ov, 0, none⟩)])
variable {p mb pv vv ap hb hv ov}
theorem frozen_below {n : Nat} {W W' : World} (h : Below n W W') {a : Addr} (ha : a.block < n) : W'.frozen? a = W.frozen? a := by
  simp only [World.frozen?, h.block _ ha]
theorem TS.lt {W : World} {m : Int} {len : Nat} (h : TS p mb pv vv ap hb hv ov W m len) : ov < W.heap.size := lt_of_cell h.cov
theorem TS.below {W W' : World} {m : Int} {len : Nat} (h : TS p mb pv vv ap hb hv ov W m len) (k : Below W.heap.size W W') : TS p mb pv vv ap hb hv ov W' m len := by
  have hl := h.lt
  have ho := h.ord
  obtain ⟨x, hx⟩ := h.b0
  obtain ⟨y, hy⟩ := h.b1
  exact ⟨ho, (k.cell (by simp only; omega)).trans h.p0, (k.cell (by simp only; omega)).trans h.p1, (k.cell (by simp only; omega)).trans h.cm, (frozen_below k (by simp only; omega)).trans h.cmf,
    (k.cell (by simp only; omega)).trans h.cpv, (k.cell (by simp only; omega)).trans h.cvv, h.cap.below k, (k.cell (by simp only; omega)).trans h.chv, (frozen_below k (by simp only; omega)).trans h.chf,
    ⟨x, (k.cell (by simp only; omega)).trans hx⟩, ⟨y, (k.cell (by simp only; omega)).trans hy⟩, (frozen_below k (by simp only; omega)).trans h.f1, (k.cell (by simp only; omega)).trans h.cov⟩
theorem TS.drewN {W : World} {m : Int} {len : Nat} (h : TS p mb pv vv ap hb hv ov W m len) (k : Nat) : TS p mb pv vv ap hb hv ov (W.drewN k) m len := ⟨h.ord, h.p0, h.p1, h.cm, h.cmf, h.cpv, h.cvv, h.cap, h.chv, h.chf, h.b0, h.b1, h.f1, h.cov⟩
theorem frozen_set (W : World) (a b : Addr) (v : Value) : (W.setCell a v).frozen? b = W.frozen? b := World.frozen?_setCell ..
/-- one more. -/
theorem TS.setM {W : World} {m : Int} {len : Nat} (h : TS p mb pv vv ap hb hv ov W m len) (m' : Int) : TS p mb pv vv ap hb hv ov (W.setCell ⟨mb, 0, none⟩ (.int .i64 m')) m' len := by
  have ho := h.ord
  obtain ⟨x, hx⟩ := h.b0
  obtain ⟨y, hy⟩ := h.b1
  exact ⟨ho, (World.cell?_setCell_far _ _ _ _ (by simp only; omega)).trans h.p0, (World.cell?_setCell_far _ _ _ _ (by simp only; omega)).trans h.p1, World.cell?_setCell_same _ _ _ h.cm, (frozen_set _ _ _ _).trans h.cmf,
    (World.cell?_setCell_far _ _ _ _ (by simp only; omega)).trans h.cpv, (World.cell?_setCell_far _ _ _ _ (by simp only; omega)).trans h.cvv, h.cap.far (by simp only; omega) _, (World.cell?_setCell_far _ _ _ _ (by simp only; omega)).trans h.chv, (frozen_set _ _ _ _).trans h.chf,
    ⟨x, (World.cell?_setCell_far _ _ _ _ (by simp only; omega)).trans hx⟩, ⟨y, (World.cell?_setCell_far _ _ _ _ (by simp only; omega)).trans hy⟩, (frozen_set _ _ _ _).trans h.f1, (World.cell?_setCell_far _ _ _ _ (by simp only; omega)).trans h.cov⟩
/-- another number of hours given. -/
theorem TS.setLen {W : World} {m : Int} {len : Nat} (h : TS p mb pv vv ap hb hv ov W m len) (len' : Nat) : TS p mb pv vv ap hb hv ov (W.setCell ⟨hv, 0, none⟩ (.slice (some ⟨hb, 0, none⟩) len' 2)) m len' := by
  have ho := h.ord
  obtain ⟨x, hx⟩ := h.b0
  obtain ⟨y, hy⟩ := h.b1
  exact ⟨ho, (World.cell?_setCell_far _ _ _ _ (by simp only; omega)).trans h.p0, (World.cell?_setCell_far _ _ _ _ (by simp only; omega)).trans h.p1, (World.cell?_setCell_far _ _ _ _ (by simp only; omega)).trans h.cm, (frozen_set _ _ _ _).trans h.cmf,
    (World.cell?_setCell_far _ _ _ _ (by simp only; omega)).trans h.cpv, (World.cell?_setCell_far _ _ _ _ (by simp only; omega)).trans h.cvv, h.cap.far (by simp only; omega) _, World.cell?_setCell_same _ _ _ h.chv, (frozen_set _ _ _ _).trans h.chf,
    ⟨x, (World.cell?_setCell_far _ _ _ _ (by simp only; omega)).trans hx⟩, ⟨y, (World.cell?_setCell_far _ _ _ _ (by simp only; omega)).trans hy⟩, (frozen_set _ _ _ _).trans h.f1, (World.cell?_setCell_far _ _ _ _ (by simp only; omega)).trans h.cov⟩
/-- an hour written. -/
theorem TS.setB {W : World} {m : Int} {len : Nat} (h : TS p mb pv vv ap hb hv ov W m len) (z : Int) : TS p mb pv vv ap hb hv ov (W.setCell ⟨hb, 1, none⟩ (.int .i64 z)) m len := by
  have ho := h.ord
  obtain ⟨x, hx⟩ := h.b0
  obtain ⟨y, hy⟩ := h.b1
  exact ⟨ho, (World.cell?_setCell_far _ _ _ _ (by simp only; omega)).trans h.p0, (World.cell?_setCell_far _ _ _ _ (by simp only; omega)).trans h.p1, (World.cell?_setCell_far _ _ _ _ (by simp only; omega)).trans h.cm, (frozen_set _ _ _ _).trans h.cmf,
    (World.cell?_setCell_far _ _ _ _ (by simp only; omega)).trans h.cpv, (World.cell?_setCell_far _ _ _ _ (by simp only; omega)).trans h.cvv, h.cap.far (by simp only; omega) _, (World.cell?_setCell_far _ _ _ _ (by simp only; omega)).trans h.chv, (frozen_set _ _ _ _).trans h.chf,
    ⟨x, (World.cell?_setCell_other _ _ _ _ (by simp)).trans hx⟩, ⟨z, World.cell?_setCell_same _ _ _ hy⟩, (frozen_set _ _ _ _).trans h.f1, (World.cell?_setCell_far _ _ _ _ (by simp only; omega)).trans h.cov⟩
end
set_option maxRecDepth 100000 in
set_option maxHeartbeats 2000000 in
/-- Plans$1 -/
theorem f62_any (mb : Nat) (A : Option Addr) (n c : Nat) (m : Int) (w : World) (h : w.cell? ⟨mb, 0, none⟩ = some (.int .i64 m)) (hf : w.frozen? ⟨mb, 0, none⟩ = false) (hm : 0 ≤ m ∧ m < 1000) :
    Calls Tryz.prog 62 #[.slice A n c, .pointer (some ⟨mb, 0, none⟩)] w fun e w' => e = .returned (.bool false) ∧ w' = w.setCell ⟨mb, 0, none⟩ (.int .i64 (m + 1)) := by
  have w1 : IntKind.i64.wrap (m + 1) = m + 1 := IntWalk.i64_in _ (by omega)
  have hq : decide (1000000 < m + 1) = false := by simp; omega
  have hq2 : ¬ (1000000 < m + 1) := by omega
  go_enter Tryz.func62, Tryz.ntmps62
  go_wp2
  go_ret
  exact ⟨by simp, rfl⟩
set_option maxRecDepth 100000 in
set_option maxHeartbeats 2000000 in
/-- each$1$1 -/
theorem t94_any (hv iv hb : Nat) (n : Nat) (u : FrameMode) (w : World) (h : w.cell? ⟨hv, 0, none⟩ = some (.slice (some ⟨hb, 0, none⟩) n 2)) (hf : w.frozen? ⟨hv, 0, none⟩ = false) (hi : w.cell? ⟨iv, 0, none⟩ = some (.int .i64 1)) :
    CallsD Tryz.prog 94 #[.pointer (some ⟨hv, 0, none⟩), .pointer (some ⟨iv, 0, none⟩)] u w fun e u' w' => u' = u ∧ (e = .returned (.tuple #[]) ∧ w' = w.setCell ⟨hv, 0, none⟩ (.slice (some ⟨hb, 0, none⟩) 1 2)) := by
  go_enter_d Tryz.func94, Tryz.ntmps94
  go_wp2
  go_end0
  exact ⟨rfl, rfl⟩
section
variable {p mb pv vv ap hb hv ov : Nat}
set_option maxRecDepth 100000 in
set_option maxHeartbeats 4000000 in
/-- each$1, all hours given. -/
theorem f93_leaf (L : Array Value) (_hL : L.size = 6) (W : World) (m : Int) (h : TS p mb pv vv ap hb hv ov W m 2) (hm : 0 ≤ m ∧ m < 1000) :
    Calls Tryz.prog 93 #[.agg L, .pointer (some ⟨hv, 0, none⟩), .pointer (some ⟨pv, 0, none⟩), .pointer (some ⟨vv, 0, none⟩), .pointer (some ⟨ap, 0, none⟩), .pointer (some ⟨ov, 0, none⟩)] W fun e w' =>
      e = .returned (.bool false) ∧ Below W.heap.size (W.setCell ⟨mb, 0, none⟩ (.int .i64 (m + 1))) w' := by
  have H := Lib.hid h
  have c1 := h.chv
  have c2 := h.cpv
  have c3 := h.p1
  have c4 := h.cvv
  clear h
  have n0 := below_alloc W (.cells L 133)
  have n1 := below_step n0 (below_alloc (W.alloc (.cells L 133)) (.cells #[.int .i64 2] 3))
  have d0 := (H.out.below n0).chv
  have d1 := (H.out.below n1).chv
  have d2 := (H.out.below n1).cpv
  have d3 := (H.out.below n1).p1
  have d4 := (H.out.below n1).cvv
  have HN := Lib.hid n1
  have K62 : Hid (∀ k, Calls Tryz.prog 62 #[.slice (some ⟨hb, 0, none⟩) 2 2, .pointer (some ⟨mb, 0, none⟩)] (((W.alloc (.cells L 133)).alloc (.cells #[.int .i64 2] 3)).drewN k) fun e w' => e = .returned (.bool false) ∧ w' = (((W.alloc (.cells L 133)).alloc (.cells #[.int .i64 2] 3)).drewN k).setCell ⟨mb, 0, none⟩ (.int .i64 (m + 1))) := Lib.hid fun k => f62_any mb (some ⟨hb, 0, none⟩) 2 2 m _ (H.out.below n1).cm (H.out.below n1).cmf hm
  have e62 : ∀ (args : Array Value) (w : World), (callFunc 62 args).run Tryz.prog w = .ok (.enter 62 args) w := fun args w => by simp [go_sem]
  clear n0 n1
  go_enter_defers Tryz.func93, Tryz.ntmps93
  go_wp2
  go_step3
  go_wp2
  go_quiet (fail)
  go_wp2_with fail
  refine Calls.mono (K62.out _) ?_
  rintro e w1 ⟨rfl, rfl⟩
  go_wp2
  exact ⟨_, results_tmp rfl _ _ _, rfl, below_both (below_drewN HN.out _) _⟩
set_option maxRecDepth 100000 in
set_option maxHeartbeats 8000000 in
/-- each$1, from the first hour on. -/
theorem f93_top (W : World) (h : TS p mb pv vv ap hb hv ov W 0 1) :
    Calls Tryz.prog 93 #[.agg #[.int .u32 1, .int .u32 6, .int .u32 0, .int .u32 0, .int .u32 0, .int .u32 0], .pointer (some ⟨hv, 0, none⟩), .pointer (some ⟨pv, 0, none⟩), .pointer (some ⟨vv, 0, none⟩), .pointer (some ⟨ap, 0, none⟩), .pointer (some ⟨ov, 0, none⟩)] W fun e w' =>
      e = .returned (.bool false) ∧ TS p mb pv vv ap hb hv ov w' 2 1 ∧ Below p W w' := by
  have H := Lib.hid h
  have hlt := h.lt
  have hord := h.ord
  clear h
  obtain ⟨L, hL⟩ : ∃ L : Array Value, L = #[.int .u32 1, .int .u32 6, .int .u32 0, .int .u32 0, .int .u32 0, .int .u32 0] := ⟨_, rfl⟩
  rw [← hL]
  have HL := Lib.hid hL
  clear hL
  have n0 := below_alloc W (.cells L 133)
  have c1 := H.out.chv
  have d0 := (H.out.below n0).chv
  have n1 := below_step n0 (below_alloc (W.alloc (.cells L 133)) (.cells #[.int .i64 1] 3))
  have d1 := (H.out.below n1).chv
  have d2 := (H.out.below n1).cpv
  have d3 := (H.out.below n1).p1
  have HN := Lib.hid n1
  have hmf : ∀ (fn : Fn) (first cap : Array Value) (w : World), (Instr.makeFunc fn first cap).run Tryz.prog w = .ok (.func fn first cap) w := fun _ _ _ _ => rfl
  clear n0 n1
  go_enter_defers Tryz.func93, Tryz.ntmps93
  go_wp2
  go_step3
  go_wp2
  go_quiet (fail)
  generalize hW2 : ((W.alloc (.cells L 133)).alloc (.cells #[.int .i64 1] 3)).drewN nq = W2
  have h2 := (H.out.below HN.out).drewN nq
  have b2 := below_drewN HN.out nq
  have l2 : W2.heap[W.heap.size]? = some (.cells L 133 (0, 0)) := by
    rw [← hW2]
    exact (Below.heap_alloc _ _ W.heap.size (by simp)).trans (heap_alloc_new W _)
  have i2 : W2.cell? ⟨W.heap.size + 1, 0, none⟩ = some (.int .i64 1) := by
    rw [← hW2]
    simp
  rw [hW2] at h2 b2
  clear hW2 c1 d0 d1 d2 d3
  have H2 := Lib.hid h2
  have B2 := Lib.hid b2
  have L2 := Lib.hid l2
  have I2 := Lib.hid i2
  have n3 := below_alloc W2 (.cells #[.int .i64 0] 3)
  have g1 := h2.chv
  have g2 := (h2.below n3).chv
  obtain ⟨y, g3⟩ := (h2.below n3).b1
  have g4 := (h2.below n3).f1
  have g5 := (h2.below n3).chf
  have g6 : hv ≠ hb := by omega
  have g7 : hb ≠ hv := by omega
  clear l2 i2 n3 h2 b2
  go_wp2
  go_step3
  generalize hW3 : ((W2.alloc (.cells #[.int .i64 0] 3)).setCell ⟨hb, 1, none⟩ (.int .i64 0)).setCell ⟨hv, 0, none⟩ (.slice (some ⟨hb, 0, none⟩) 2 2) = W3
  have n3 := below_alloc W2 (.cells #[.int .i64 0] 3)
  have h3 := ((H2.out.below n3).setB 0).setLen 2
  have b3 := ((B2.out.mono (Nat.le_of_lt (show p < W.heap.size by omega))).trans (n3.mono (show p ≤ W2.heap.size by have := H2.out.lt; omega)) |>.setCell (p := ⟨hb, 1, none⟩) (by simp only; omega) (.int .i64 0)).setCell (p := ⟨hv, 0, none⟩) (by simp only; omega) (.slice (some ⟨hb, 0, none⟩) 2 2)
  have hlt2 : W.heap.size + 1 < W2.heap.size := by have := lt_of_cell I2.out; exact this
  have l3 : W3.heap[W.heap.size]? = some (.cells L 133 (0, 0)) := by
    rw [← hW3]
    exact (Below.heap_setCell _ ⟨hv, 0, none⟩ _ _ (by simp only; omega)).trans ((Below.heap_setCell _ ⟨hb, 1, none⟩ _ _ (by simp only; omega)).trans ((n3.block _ (by omega)).trans L2.out))
  have i3 : W3.cell? ⟨W.heap.size + 1, 0, none⟩ = some (.int .i64 1) := by
    rw [← hW3]
    exact (World.cell?_setCell_far _ _ _ _ (by simp only; omega)).trans ((World.cell?_setCell_far _ _ _ _ (by simp only; omega)).trans ((n3.cell (by simp only; omega)).trans I2.out))
  rw [hW3] at h3 b3
  have H3 := Lib.hid h3
  have B3 := Lib.hid b3
  have L3 := Lib.hid l3
  have I3 := Lib.hid i3
  have e1 := h3.cpv
  have e2 := h3.p0
  clear h3 b3 l3 i3 hW3 n3 g1 g2 g3 g4 g5
  go_wp2
  go_loopw [31] (fun hi wr => ∃ h : Nat, h ≤ 3 ∧ hi = .int .i64 (h : Int) ∧ Hid (TS p mb pv vv ap hb hv ov wr ((h - 1 : Nat) : Int) 2) ∧ Hid (Below p W wr) ∧ Hid (wr.heap[W.heap.size]? = some (.cells L 133 (0, 0))) ∧ Hid (wr.cell? ⟨W.heap.size + 1, 0, none⟩ = some (.int .i64 1))) (fun hi _ => 3 - (intOf hi).toNat)
  case atStart => exact ⟨0, by omega, rfl, H3, B3, L3, I3⟩
  case round => as_aux_lemma =>
    obtain ⟨h, hh, rfl, H4, B4, L4, I4⟩ := hrel
    by_cases hh3 : h < 3
    · have hq : h = 0 ∨ h = 1 ∨ h = 2 := by omega
      have ci := I4.out
      have cl : wr.cell? ⟨W.heap.size, 1, none⟩ = some (.int .u32 6) := by
        rw [cell_of_row wr W.heap.size 1 L 133 (0, 0) L4.out, HL.out]
        rfl
      rcases hq with rfl | rfl | rfl
      · have hbit : (bits BinOp.and IntKind.u32 6 1 == 0) = true := by decide
        go_wp2
        go_quiet (fail)
        go_wp2
        go_roundw
        case rel => exact ⟨1, by omega, by go_num, H4.out.drewN _, below_drewN B4.out _, L4, I4⟩
        case measure => simp [intOf]
      · have hbit : (bits BinOp.and IntKind.u32 6 2 == 0) = false := by decide
        go_wp2
        go_quiet (fail)
        generalize hW5 : wr.drewN nq = W5
        have h5 := H4.out.drewN nq
        have b5 := below_drewN B4.out nq
        have l5 : W5.heap[W.heap.size]? = some (.cells L 133 (0, 0)) := by
          rw [← hW5]
          exact L4.out
        have i5 : W5.cell? ⟨W.heap.size + 1, 0, none⟩ = some (.int .i64 1) := by
          rw [← hW5]
          exact I4.out
        rw [hW5] at h5 b5
        have H5 := Lib.hid h5
        have B5 := Lib.hid b5
        have L5 := Lib.hid l5
        have I5 := Lib.hid i5
        have k0 : W5.cell? ⟨W.heap.size, 0, none⟩ = some (.int .u32 1) := by
          rw [cell_of_row W5 W.heap.size 0 L 133 (0, 0) l5, HL.out]
          rfl
        have k1 : W5.cell? ⟨W.heap.size, 1, none⟩ = some (.int .u32 6) := by
          rw [cell_of_row W5 W.heap.size 1 L 133 (0, 0) l5, HL.out]
          rfl
        have k2 : W5.cell? ⟨W.heap.size, 2, none⟩ = some (.int .u32 0) := by
          rw [cell_of_row W5 W.heap.size 2 L 133 (0, 0) l5, HL.out]
          rfl
        have k3 : W5.cell? ⟨W.heap.size, 3, none⟩ = some (.int .u32 0) := by
          rw [cell_of_row W5 W.heap.size 3 L 133 (0, 0) l5, HL.out]
          rfl
        have k4 : W5.cell? ⟨W.heap.size, 4, none⟩ = some (.int .u32 0) := by
          rw [cell_of_row W5 W.heap.size 4 L 133 (0, 0) l5, HL.out]
          rfl
        have k5 : W5.cell? ⟨W.heap.size, 5, none⟩ = some (.int .u32 0) := by
          rw [cell_of_row W5 W.heap.size 5 L 133 (0, 0) l5, HL.out]
          rfl
        have n6 := below_alloc W5 (.cells #[.int .u32 1, .int .u32 6, .int .u32 0, .int .u32 0, .int .u32 0, .int .u32 0] 133)
        have N6 := Lib.hid n6
        have h6 := h5.below n6
        have i6 := (n6.cell (lt_of_cell i5)).trans i5
        go_wp2_with fail
        generalize hW6 : W5.alloc (.cells #[.int .u32 1, .int .u32 6, .int .u32 0, .int .u32 0, .int .u32 0, .int .u32 0] 133) = W6
        have r6 : W6.heap[W5.heap.size]? = some (.cells #[.int .u32 1, .int .u32 6, .int .u32 0, .int .u32 0, .int .u32 0, .int .u32 0] 133 (0, 0)) := by
          rw [← hW6]
          exact heap_alloc_new W5 _
        rw [hW6] at h6 i6 N6
        have l6 : W.heap.size + 1 < W5.heap.size := lt_of_cell i5
        have l66 := N6.out.size
        have e7 : W5.heap.size ≠ hb := by omega
        have e8 : hb ≠ W5.heap.size := by omega
        have H6 := Lib.hid h6
        have I6 := Lib.hid i6
        have L6 : Hid (W6.heap[W.heap.size]? = some (.cells L 133 (0, 0))) := Lib.hid ((N6.out.block _ (by omega)).trans l5)
        have B6 : Hid (Below p W W6) := Lib.hid (b5.trans (N6.out.mono (by omega)))
        generalize W5.heap.size = q at *
        have e1 := h6.cpv
        have e2 := h6.p1
        clear hW5 h5 b5 l5 i5 n6 h6 ci cl k0 k1 k2 k3 k4 k5
        go_loopw [11] (fun kv wq => kv = .int .i64 2 ∧ W6 = wq) (fun _ _ => 0)
        case atStart => exact ⟨rfl, rfl⟩
        case round => as_aux_lemma =>
          obtain ⟨rfl, rfl⟩ := hrel
          have e3 := H6.out.chv
          obtain ⟨y, e4⟩ := H6.out.b1
          have e5 := H6.out.f1
          have e6 := H6.out.cov
          have j0 : W6.cell? ⟨q, 0, none⟩ = some (.int .u32 1) := (cell_of_row W6 q 0 _ 133 (0, 0) r6).trans rfl
          have j1 : W6.cell? ⟨q, 1, none⟩ = some (.int .u32 6) := (cell_of_row W6 q 1 _ 133 (0, 0) r6).trans rfl
          have j2 : W6.cell? ⟨q, 2, none⟩ = some (.int .u32 0) := (cell_of_row W6 q 2 _ 133 (0, 0) r6).trans rfl
          have j3 : W6.cell? ⟨q, 3, none⟩ = some (.int .u32 0) := (cell_of_row W6 q 3 _ 133 (0, 0) r6).trans rfl
          have j4 : W6.cell? ⟨q, 4, none⟩ = some (.int .u32 0) := (cell_of_row W6 q 4 _ 133 (0, 0) r6).trans rfl
          have j5 : W6.cell? ⟨q, 5, none⟩ = some (.int .u32 0) := (cell_of_row W6 q 5 _ 133 (0, 0) r6).trans rfl
          have e93 : ∀ (args : Array Value) (w : World), (callFunc 93 args).run Tryz.prog w = .ok (.enter 93 args) w := fun args w => by simp [go_sem]
          clear r6
          go_wp2_with fail
          refine Calls.mono (f93_leaf #[.int .u32 1, .int .u32 6, .int .u32 0, .int .u32 0, .int .u32 0, .int .u32 0] rfl _ _ (H6.out.setB 1) (by decide)) ?_
          rintro e w1 ⟨rfl, hb1⟩
          have s6 : (W6.setCell ⟨hb, 1, none⟩ (.int .i64 1)).heap.size = W6.heap.size := by simp [World.setCell]
          have hl7 := H6.out.lt
          have H7 : Hid (TS p mb pv vv ap hb hv ov w1 ((2 - 1 : Nat) : Int) 2) := Lib.hid (((H6.out.setB 1).setM _).below (by simpa [World.setCell] using hb1))
          have B7 : Hid (Below p W w1) := Lib.hid (((B6.out.setCell (p := ⟨hb, 1, none⟩) (by simp only; omega) _).setCell (p := ⟨mb, 0, none⟩) (by simp only; omega) _).trans (hb1.mono (by rw [s6]; omega)))
          have L7 : Hid (w1.heap[W.heap.size]? = some (.cells L 133 (0, 0))) := Lib.hid ((hb1.block _ (by rw [s6]; omega)).trans ((Below.heap_setCell _ ⟨mb, 0, none⟩ _ _ (by simp only; omega)).trans ((Below.heap_setCell _ ⟨hb, 1, none⟩ _ _ (by simp only; omega)).trans L6.out)))
          have I7 : Hid (w1.cell? ⟨W.heap.size + 1, 0, none⟩ = some (.int .i64 1)) := Lib.hid ((hb1.cell (by rw [s6]; simp only; omega)).trans ((World.cell?_setCell_far _ _ _ _ (by simp only; omega)).trans ((World.cell?_setCell_far _ _ _ _ (by simp only; omega)).trans I6.out)))
          clear hb1 j0 j1 j2 j3 j4 j5 e1 e2 e3 e4 e5 e6
          go_wp2
          go_roundw
          case rel => exact ⟨2, by omega, by go_num, H7, B7, L7, I7⟩
          case measure => simp [intOf]
      · have hbit : (bits BinOp.and IntKind.u32 6 4 == 0) = false := by decide
        go_wp2
        go_quiet (fail)
        generalize hW5 : wr.drewN nq = W5
        have h5 := H4.out.drewN nq
        have b5 := below_drewN B4.out nq
        have l5 : W5.heap[W.heap.size]? = some (.cells L 133 (0, 0)) := by
          rw [← hW5]
          exact L4.out
        have i5 : W5.cell? ⟨W.heap.size + 1, 0, none⟩ = some (.int .i64 1) := by
          rw [← hW5]
          exact I4.out
        rw [hW5] at h5 b5
        have H5 := Lib.hid h5
        have B5 := Lib.hid b5
        have L5 := Lib.hid l5
        have I5 := Lib.hid i5
        have k0 : W5.cell? ⟨W.heap.size, 0, none⟩ = some (.int .u32 1) := by
          rw [cell_of_row W5 W.heap.size 0 L 133 (0, 0) l5, HL.out]
          rfl
        have k1 : W5.cell? ⟨W.heap.size, 1, none⟩ = some (.int .u32 6) := by
          rw [cell_of_row W5 W.heap.size 1 L 133 (0, 0) l5, HL.out]
          rfl
        have k2 : W5.cell? ⟨W.heap.size, 2, none⟩ = some (.int .u32 0) := by
          rw [cell_of_row W5 W.heap.size 2 L 133 (0, 0) l5, HL.out]
          rfl
        have k3 : W5.cell? ⟨W.heap.size, 3, none⟩ = some (.int .u32 0) := by
          rw [cell_of_row W5 W.heap.size 3 L 133 (0, 0) l5, HL.out]
          rfl
        have k4 : W5.cell? ⟨W.heap.size, 4, none⟩ = some (.int .u32 0) := by
          rw [cell_of_row W5 W.heap.size 4 L 133 (0, 0) l5, HL.out]
          rfl
        have k5 : W5.cell? ⟨W.heap.size, 5, none⟩ = some (.int .u32 0) := by
          rw [cell_of_row W5 W.heap.size 5 L 133 (0, 0) l5, HL.out]
          rfl
        have n6 := below_alloc W5 (.cells #[.int .u32 1, .int .u32 6, .int .u32 0, .int .u32 0, .int .u32 0, .int .u32 0] 133)
        have N6 := Lib.hid n6
        have h6 := h5.below n6
        have i6 := (n6.cell (lt_of_cell i5)).trans i5
        go_wp2_with fail
        generalize hW6 : W5.alloc (.cells #[.int .u32 1, .int .u32 6, .int .u32 0, .int .u32 0, .int .u32 0, .int .u32 0] 133) = W6
        have r6 : W6.heap[W5.heap.size]? = some (.cells #[.int .u32 1, .int .u32 6, .int .u32 0, .int .u32 0, .int .u32 0, .int .u32 0] 133 (0, 0)) := by
          rw [← hW6]
          exact heap_alloc_new W5 _
        rw [hW6] at h6 i6 N6
        have l6 : W.heap.size + 1 < W5.heap.size := lt_of_cell i5
        have l66 := N6.out.size
        have e7 : W5.heap.size ≠ hb := by omega
        have e8 : hb ≠ W5.heap.size := by omega
        have H6 := Lib.hid h6
        have I6 := Lib.hid i6
        have L6 : Hid (W6.heap[W.heap.size]? = some (.cells L 133 (0, 0))) := Lib.hid ((N6.out.block _ (by omega)).trans l5)
        have B6 : Hid (Below p W W6) := Lib.hid (b5.trans (N6.out.mono (by omega)))
        generalize W5.heap.size = q at *
        have e1 := h6.cpv
        have e2 := h6.p1
        clear hW5 h5 b5 l5 i5 n6 h6 ci cl k0 k1 k2 k3 k4 k5
        go_loopw [11] (fun kv wq => kv = .int .i64 2 ∧ W6 = wq) (fun _ _ => 0)
        case atStart => exact ⟨rfl, rfl⟩
        case round => as_aux_lemma =>
          obtain ⟨rfl, rfl⟩ := hrel
          have e3 := H6.out.chv
          obtain ⟨y, e4⟩ := H6.out.b1
          have e5 := H6.out.f1
          have e6 := H6.out.cov
          have j0 : W6.cell? ⟨q, 0, none⟩ = some (.int .u32 1) := (cell_of_row W6 q 0 _ 133 (0, 0) r6).trans rfl
          have j1 : W6.cell? ⟨q, 1, none⟩ = some (.int .u32 6) := (cell_of_row W6 q 1 _ 133 (0, 0) r6).trans rfl
          have j2 : W6.cell? ⟨q, 2, none⟩ = some (.int .u32 0) := (cell_of_row W6 q 2 _ 133 (0, 0) r6).trans rfl
          have j3 : W6.cell? ⟨q, 3, none⟩ = some (.int .u32 0) := (cell_of_row W6 q 3 _ 133 (0, 0) r6).trans rfl
          have j4 : W6.cell? ⟨q, 4, none⟩ = some (.int .u32 0) := (cell_of_row W6 q 4 _ 133 (0, 0) r6).trans rfl
          have j5 : W6.cell? ⟨q, 5, none⟩ = some (.int .u32 0) := (cell_of_row W6 q 5 _ 133 (0, 0) r6).trans rfl
          have e93 : ∀ (args : Array Value) (w : World), (callFunc 93 args).run Tryz.prog w = .ok (.enter 93 args) w := fun args w => by simp [go_sem]
          clear r6
          go_wp2_with fail
          refine Calls.mono (f93_leaf #[.int .u32 1, .int .u32 6, .int .u32 0, .int .u32 0, .int .u32 0, .int .u32 0] rfl _ _ (H6.out.setB 2) (by decide)) ?_
          rintro e w1 ⟨rfl, hb1⟩
          have s6 : (W6.setCell ⟨hb, 1, none⟩ (.int .i64 2)).heap.size = W6.heap.size := by simp [World.setCell]
          have hl7 := H6.out.lt
          have H7 : Hid (TS p mb pv vv ap hb hv ov w1 ((3 - 1 : Nat) : Int) 2) := Lib.hid (((H6.out.setB 2).setM _).below (by simpa [World.setCell] using hb1))
          have B7 : Hid (Below p W w1) := Lib.hid (((B6.out.setCell (p := ⟨hb, 1, none⟩) (by simp only; omega) _).setCell (p := ⟨mb, 0, none⟩) (by simp only; omega) _).trans (hb1.mono (by rw [s6]; omega)))
          have L7 : Hid (w1.heap[W.heap.size]? = some (.cells L 133 (0, 0))) := Lib.hid ((hb1.block _ (by rw [s6]; omega)).trans ((Below.heap_setCell _ ⟨mb, 0, none⟩ _ _ (by simp only; omega)).trans ((Below.heap_setCell _ ⟨hb, 1, none⟩ _ _ (by simp only; omega)).trans L6.out)))
          have I7 : Hid (w1.cell? ⟨W.heap.size + 1, 0, none⟩ = some (.int .i64 1)) := Lib.hid ((hb1.cell (by rw [s6]; simp only; omega)).trans ((World.cell?_setCell_far _ _ _ _ (by simp only; omega)).trans ((World.cell?_setCell_far _ _ _ _ (by simp only; omega)).trans I6.out)))
          clear hb1 j0 j1 j2 j3 j4 j5 e1 e2 e3 e4 e5 e6
          go_wp2
          go_roundw
          case rel => exact ⟨3, by omega, by go_num, H7, B7, L7, I7⟩
          case measure => simp [intOf]
    · obtain rfl : h = 3 := by omega
      have e1 := H4.out.chv
      go_wp2
      refine leaves_cons (f := 94) (args := #[.pointer (some ⟨hv, 0, none⟩), .pointer (some ⟨W.heap.size + 1, 0, none⟩)]) (by simp) (by simp [go_sem]) ?_
      refine (t94_any hv (W.heap.size + 1) hb 2 .returning wr H4.out.chv H4.out.chf I4.out).mono ?_
      rintro e u' w'' ⟨rfl, rfl, rfl⟩
      exact ⟨_, results_tmp rfl _ _ _, rfl, H4.out.setLen 1, B4.out.setCell (p := ⟨hv, 0, none⟩) (by simp only; omega) _⟩
end
end Go.Proofs.YtmepndnckcpgjaaGreat

namespace Go.Proofs.YtmepndnckcpgjaaGreat
open Go.RowKit
theorem MatI.sets {o : Nat} : ∀ (l : List Int) (k : Nat) {W : World} {f : Nat → Int}, MatI W o f → MatI (W.setCells o k (l.map (Value.int .u32))) o fun x => if k ≤ x ∧ x < k + l.length then l.getD (x - k) 0 else f x
  | [], k, W, f, h => h.congr fun x _ => by rw [if_neg (by simp)]
  | a :: r, k, W, f, h => (MatI.sets r (k + 1) (h.set k a)).congr fun x _ => by
    simp only [List.length_cons]
    by_cases e1 : x = k
    · subst e1
      rw [if_neg (by omega), if_pos rfl, if_pos (by omega), Nat.sub_self]
      rfl
    · by_cases e2 : k + 1 ≤ x ∧ x < k + 1 + r.length
      · rw [if_pos e2, if_pos (by omega), show x - k = (x - (k + 1)) + 1 from by omega]
        rfl
      · rw [if_neg e2, if_neg e1, if_neg (by omega)]
def apL : List Int := (List.range 36).map fun i => (apN i : Int)
theorem apL_matV : apL.map (Value.int .u32) = matV := by simp [apL, matV]
theorem apL_at : ∀ x, x < 36 → (if 0 ≤ x ∧ x < 0 + apL.length then apL.getD (x - 0) 0 else 0) = (apN x : Int) := by decide +kernel
theorem MatI.stored {W : World} {o : Nat} (h : MatI W o fun _ => 0) : MatI (W.setCells o 0 matV) o fun x => (apN x : Int) := by
  rw [← apL_matV]
  exact (MatI.sets apL 0 h).congr apL_at
theorem make12 (W : World) : (Instr.makeSlice 23 (.int .i64 1) (.int .i64 2)).run Tryz.prog W = .ok (.slice (some ⟨W.heap.size, 0, none⟩) 1 2) (W.alloc (.cells #[.int .i64 0, .int .i64 0] 3)) := by
  obtain ⟨i0, hi, hz0, hz1, hz2⟩ := info_parts (show (Tryz.prog.info? 3).map (fun i => (i.zero, i.size, i.bytes)) = some (some (.int .i64 0), 1, 8) from by kernel_rfl)
  have hr := run_make (P := Tryz.prog) W 23 3 i0 (.int .i64 0) Tryz.underlying23 hi hz0 .i64 .i64 1 2 (by omega) (by omega) (by rw [hz2]; omega) (by omega)
  have e : madeCells (Value.int .i64 0).cells ((2 : Int).toNat * i0.size) = #[.int .i64 0, .int .i64 0] := by
    rw [hz1]
    apply Array.toList_inj.1
    exact (toList_madeCells_one _ _).trans (by rfl)
  exact hr.trans (by rw [e]; rfl)
theorem run_store_func (P : Program) (w : World) (a : Addr) (m : Mode) (f : Fn) (x y : Array Value) : (store a (.func f x y) m).run P w = stored P w a (.func f x y) m := run_store P w a _ m rfl
attribute [local go_sem] run_store_func
theorem three_new (W : World) (X Y Z : Array Value) (s t u : TypeId) {W6 : World} (h : ((W.alloc (.cells X s)).alloc (.cells Y t)).alloc (.cells Z u) = W6) :
    W6.heap[W.heap.size]? = some (.cells X s (0, 0)) ∧ W6.heap[W.heap.size + 1]? = some (.cells Y t (0, 0)) ∧ W6.heap[W.heap.size + 1 + 1]? = some (.cells Z u (0, 0)) ∧ Below W.heap.size W W6 := by
  have s1 : (W.alloc (.cells X s)).heap.size = W.heap.size + 1 := by simp
  have s2 : ((W.alloc (.cells X s)).alloc (.cells Y t)).heap.size = W.heap.size + 1 + 1 := by simp
  have b1 := below_alloc W (.cells X s)
  have b2 := below_alloc (W.alloc (.cells X s)) (.cells Y t)
  have b3 := below_alloc ((W.alloc (.cells X s)).alloc (.cells Y t)) (.cells Z u)
  have h1 := heap_alloc_new W (.cells X s)
  have h2 := heap_alloc_new (W.alloc (.cells X s)) (.cells Y t)
  have h3 := heap_alloc_new ((W.alloc (.cells X s)).alloc (.cells Y t)) (.cells Z u)
  rw [s1] at h2 b2
  rw [s2] at h3 b3
  rw [h] at h3 b3
  exact ⟨(b3.block _ (by omega)).trans ((b2.block _ (by omega)).trans h1), (b3.block _ (by omega)).trans h2, h3, (b1.trans (b2.mono (by omega))).trans (b3.mono (by omega))⟩
theorem frozen_row {W : World} {g : Nat} {X : Array Value} {t : TypeId} (h : W.heap[g]? = some (.cells X t (0, 0))) (i : Nat) : W.frozen? ⟨g, i, none⟩ = false := by
  simp only [World.frozen?, h]
  rfl
theorem one_mat (w : World) (Z : Array Value) (hZ : Z = ((List.range 36).map fun _ => Value.int .u32 0).toArray) : ∃ W, w.alloc (.cells Z 134) = W ∧ MatI W w.heap.size (fun _ => 0) ∧ Below w.heap.size w W := by
  subst hZ
  exact ⟨_, rfl, heap_alloc_new w _, below_alloc w _⟩
theorem below_cells {n b : Nat} {W W2 : World} (h : Below n W W2) (hb : n ≤ b) (vs : List Value) (o : Nat) : Below n W (W2.setCells b o vs) := below_sets hb vs o h
set_option maxRecDepth 100000 in
set_option maxHeartbeats 8000000 in
/-- (*plan).each at one span, counting. -/
theorem f61_any (p b mb : Nat) (w : World) (h : Plan1 w p b) (hpm : p < mb) (hm : w.cell? ⟨mb, 0, none⟩ = some (.int .i64 0)) (hmf : w.frozen? ⟨mb, 0, none⟩ = false) :
    Calls Tryz.prog 61 #[.pointer (some ⟨p, 0, none⟩), .func (.func 62) #[] #[.pointer (some ⟨mb, 0, none⟩)]] w fun e w' =>
      e = .returned (.bool false) ∧ w'.cell? ⟨mb, 0, none⟩ = some (.int .i64 2) ∧ Below p w w' := by
  have b1 := below_alloc w (.cells #[.pointer (some ⟨p, 0, none⟩)] 92)
  have b2 := below_step b1 (below_alloc (w.alloc (.cells #[.pointer (some ⟨p, 0, none⟩)] 92)) (.cells #[.func (.func 62) #[] #[.pointer (some ⟨mb, 0, none⟩)]] 65))
  have H2 := Lib.hid (h.below b2)
  have B2 := Lib.hid b2
  have HM := Lib.hid hm
  have HF := Lib.hid hmf
  have hmk : ∀ (fn : Fn) (first cap : Array Value) (w : World), (Instr.makeFunc fn first cap).run Tryz.prog w = .ok (.func fn first cap) w := fun _ _ _ _ => rfl
  have hms := make12
  have hltm := lt_of_cell hm
  have K92 : Hid (∀ W, Plan1 W p b → Calls Tryz.prog 92 #[.pointer (some ⟨p, 0, none⟩)] W fun e w' => e = .returned (.agg matV.toArray) ∧ Below W.heap.size W w') := Lib.hid fun W hW => f92_any p b W hW
  clear h b1 b2 hm hmf
  go_enter Tryz.func61, Tryz.ntmps61
  go_wp2_with fail
  refine (K92.out _ H2.out).mono ?_
  rintro e w3 ⟨rfl, hb3⟩
  have s3 : w.heap.size + 2 ≤ w3.heap.size := by have := hb3.size; simpa using this
  have B3 := Lib.hid (below_step B2.out hb3)
  have H3 := Lib.hid (H2.out.below hb3)
  have P3 : Hid (w3.cell? ⟨w.heap.size, 0, none⟩ = some (.pointer (some ⟨p, 0, none⟩))) := Lib.hid ((hb3.cell (by simp; try omega)).trans (by simp))
  have V3 : Hid (w3.cell? ⟨w.heap.size + 1, 0, none⟩ = some (.func (.func 62) #[] #[.pointer (some ⟨mb, 0, none⟩)])) := Lib.hid ((hb3.cell (by simp; try omega)).trans (by simp))
  clear hb3
  obtain ⟨W4, hW4, m4, b4⟩ := one_mat w3 #[.int .u32 0, .int .u32 0, .int .u32 0, .int .u32 0, .int .u32 0, .int .u32 0, .int .u32 0, .int .u32 0, .int .u32 0, .int .u32 0, .int .u32 0, .int .u32 0, .int .u32 0, .int .u32 0, .int .u32 0, .int .u32 0, .int .u32 0, .int .u32 0, .int .u32 0, .int .u32 0, .int .u32 0, .int .u32 0, .int .u32 0, .int .u32 0, .int .u32 0, .int .u32 0, .int .u32 0, .int .u32 0, .int .u32 0, .int .u32 0, .int .u32 0, .int .u32 0, .int .u32 0, .int .u32 0, .int .u32 0, .int .u32 0] rfl
  have M4 := Lib.hid m4
  have B4 := Lib.hid b4
  have hT := m4.there
  clear m4 b4
  go_upto_region 2 with (first | refine wpList_store_mid rfl 134 (.tmp 5) (.tmp 9) rfl w3.heap.size 0 matV.toArray rfl rfl hT hinf2 hone ?_)
  generalize hW5 : W4.setCells w3.heap.size 0 matV.toArray.toList = W5
  have m5 : MatI W5 w3.heap.size fun x => (apN x : Int) := by rw [← hW5]; exact M4.out.stored
  have b5 : Below w3.heap.size w3 W5 := by rw [← hW5]; exact below_sets (Nat.le_refl _) matV 0 B4.out
  have P5 := Lib.hid ((b5.cell (lt_of_cell P3.out)).trans P3.out)
  have V5 := Lib.hid ((b5.cell (lt_of_cell V3.out)).trans V3.out)
  have H5 := Lib.hid (H3.out.below b5)
  have B5 := Lib.hid (below_step B3.out b5)
  have s5 := m5.lt
  have M5 := Lib.hid m5
  clear hW5 hW4 hT m5 b5 P3 V3 H3 M4 B4
  have c1 := P5.out
  have c2 := H5.out.n
  go_upto_region 5 with fail
  generalize hW6 : ((W5.alloc (.cells #[.int .i64 0, .int .i64 0] 3)).alloc (.cells #[.slice (some ⟨W5.heap.size, 0, none⟩) 1 2] 23)).alloc (.cells #[.func (.func 93) #[] #[.pointer (some ⟨W5.heap.size + 1, 0, none⟩), .pointer (some ⟨w.heap.size, 0, none⟩), .pointer (some ⟨w.heap.size + 1, 0, none⟩), .pointer (some ⟨w3.heap.size, 0, none⟩), .pointer (some ⟨W5.heap.size + 1 + 1, 0, none⟩)]] 136) = W6
  obtain ⟨r1, r2, r3, b6⟩ := three_new W5 _ _ _ _ _ _ hW6
  have hm5 := (B5.out.cell (p := ⟨mb, 0, none⟩) hltm).trans HM.out
  have hf5 := (frozen_below B5.out (a := ⟨mb, 0, none⟩) hltm).trans HF.out
  have ts : TS p mb w.heap.size (w.heap.size + 1) w3.heap.size W5.heap.size (W5.heap.size + 1) (W5.heap.size + 1 + 1) W6 0 1 :=
    ⟨⟨hpm, hltm, by omega, by omega, s5, by omega, by omega⟩, (b6.cell (lt_of_cell H5.out.t)).trans H5.out.t, (b6.cell (lt_of_cell H5.out.n)).trans H5.out.n, (b6.cell (lt_of_cell hm5)).trans hm5, (frozen_below b6 (a := ⟨mb, 0, none⟩) (lt_of_cell hm5)).trans hf5,
      (b6.cell (lt_of_cell P5.out)).trans P5.out, (b6.cell (lt_of_cell V5.out)).trans V5.out, M5.out.below b6, (cell_of_row W6 _ 0 _ 23 (0, 0) r2).trans rfl, frozen_row r2 0, ⟨0, (cell_of_row W6 _ 0 _ 3 (0, 0) r1).trans rfl⟩, ⟨0, (cell_of_row W6 _ 1 _ 3 (0, 0) r1).trans rfl⟩, frozen_row r1 1, (cell_of_row W6 _ 0 _ 136 (0, 0) r3).trans rfl⟩
  have k0 : W6.cell? ⟨w3.heap.size, 0, none⟩ = some (.int .u32 1) := (ts.cap.cell (i := 0) (by omega)).trans rfl
  have k1 : W6.cell? ⟨w3.heap.size, 1, none⟩ = some (.int .u32 6) := (ts.cap.cell (i := 1) (by omega)).trans rfl
  have k2 : W6.cell? ⟨w3.heap.size, 2, none⟩ = some (.int .u32 0) := (ts.cap.cell (i := 2) (by omega)).trans rfl
  have k3 : W6.cell? ⟨w3.heap.size, 3, none⟩ = some (.int .u32 0) := (ts.cap.cell (i := 3) (by omega)).trans rfl
  have k4 : W6.cell? ⟨w3.heap.size, 4, none⟩ = some (.int .u32 0) := (ts.cap.cell (i := 4) (by omega)).trans rfl
  have k5 : W6.cell? ⟨w3.heap.size, 5, none⟩ = some (.int .u32 0) := (ts.cap.cell (i := 5) (by omega)).trans rfl
  have k6 := ts.cov
  have TSH := Lib.hid ts
  have B6 : Hid (Below p w W6) := Lib.hid ((B5.out.mono (show p ≤ w.heap.size by omega)).trans (b6.mono (show p ≤ W5.heap.size by have := B5.out.size; omega)))
  have e93 : ∀ (args : Array Value) (w : World), (callFunc 93 args).run Tryz.prog w = .ok (.enter 93 args) w := fun args w => by simp [go_sem]
  clear hW6 r1 r2 r3 b6 hm5 hf5 ts c1 c2
  go_wp2_with fail
  refine (f93_top W6 TSH.out).mono ?_
  rintro e w7 ⟨rfl, h7, b7⟩
  have H7 := Lib.hid h7
  have B7 := Lib.hid (B6.out.trans b7)
  clear h7 b7 k0 k1 k2 k3 k4 k5 k6
  go_wp2
  go_ret
  exact ⟨rfl, H7.out.cm, B7.out⟩
set_option maxRecDepth 100000 in
set_option maxHeartbeats 8000000 in
/-- turn.Plans at one span. -/
theorem f42_one (b : Nat) (w : World) (h : Span1 w b) :
    Calls Tryz.prog 42 #[.int .i64 3, .int .i64 2, .slice (some ⟨b, 0, none⟩) 1 1] w fun e w' => e = .returned (.tuple #[.int .i64 2, .int .i64 0]) ∧ Below w.heap.size w w' := by
  have hmk : ∀ (fn : Fn) (first cap : Array Value) (w : World), (Instr.makeFunc fn first cap).run Tryz.prog w = .ok (.func fn first cap) w := fun _ _ _ _ => rfl
  have K60 := Lib.hid (f60_one b w h)
  clear h
  go_enter Tryz.func42, Tryz.ntmps42
  go_wp2_with fail
  refine K60.out.mono ?_
  rintro e w1 ⟨p, rfl, hp, hb, hsz⟩
  have hpl := lt_of_cell hp.t
  have b2 := below_alloc w1 (.cells #[.int .i64 0] 3)
  have H2 := Lib.hid (hp.below b2)
  have B2 := Lib.hid (below_step hb b2)
  have K61 := Lib.hid (f61_any p b w1.heap.size (w1.alloc (.cells #[.int .i64 0] 3)) H2.out hpl ((cell_new w1 _ 3 0).trans rfl) (frozen_row (heap_alloc_new w1 _) 0))
  clear hp hb b2
  go_wp2_with fail
  refine K61.out.mono ?_
  rintro e w3 ⟨rfl, hc, hb3⟩
  have B3 := Lib.hid (B2.out.trans (hb3.mono hsz))
  clear hb3
  go_wp2
  go_ret2
  exact ⟨rfl, B3.out⟩
end Go.Proofs.YtmepndnckcpgjaaGreat
