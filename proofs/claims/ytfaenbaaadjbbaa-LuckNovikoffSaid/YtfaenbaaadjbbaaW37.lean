/- Walks: slices.Min, slices.Index, Best. -/
import Derived.Test.YtfaenbaaadjbbaaW24
import Derived.Test.YtfaenbaaadjbbaaPlain12
namespace Go.Proofs.Ytfaenbaaadjbbaa
open Go.RowKit

set_option maxHeartbeats 1000000 in
/-- slices.Min at ints -/
theorem f65_any (A : Option Addr) (n c : Nat) (xs : List Int) (w : World) (hs : Ints w A n xs) (hn : 0 < n) :
    Calls Try.prog 65 #[.slice A n c] w fun e w' => e = .returned (.int .i64 (xs.getD (whoTo xs n) 0)) ∧ w = w' := by
  have hb := hs.small
  have hf1 : Hid (xs.getD (whoTo xs 1) 0 = xs.getD 0 0) := by rw [who_one]; rfl
  obtain ⟨b, off, rfl, hc⟩ := hs.ad hn
  have HC := Lib.hid hc
  have hc0 := hc 0 hn
  simp only [Nat.add_zero] at hc0
  have hq : decide ((n : Int) < 1) = false := by simp; omega
  clear hs hc
  go_enter Try.func65, Try.ntmps65
  go_wp2
  go_loop [3, 4] (fun t i => ∃ k : Nat, 1 ≤ k ∧ k ≤ n ∧ i = .int .i64 (k : Int) ∧ t = .int .i64 (xs.getD (whoTo xs k) 0)) (fun _ i => n - (intOf i).toNat)
  case atStart => exact ⟨1, by omega, by omega, rfl, by rw [hf1.out]; simp⟩
  case round =>
    obtain ⟨k, hk1, hk, rfl, rfl⟩ := hrel
    by_cases hlt : k < n
    · have hck := HC.out k hlt
      have hst := Lib.hid (who_step xs k)
      generalize xs.getD k 0 = x at *
      generalize xs.getD (whoTo xs k) 0 = y at *
      by_cases h : x < y
      · have hm : Hid (xs.getD (whoTo xs (k + 1)) 0 = x) := by rw [hst.out, if_pos h]; rfl
        clear hst
        go_wp2
        go_round
        case rel => exact ⟨k + 1, by omega, by omega, by go_num, by rw [hm.out]⟩
        case measure => simp [intOf]; omega
      · have hm : Hid (xs.getD (whoTo xs (k + 1)) 0 = y) := by rw [hst.out, if_neg h]; rfl
        clear hst
        go_wp2
        go_round
        case rel => exact ⟨k + 1, by omega, by omega, by go_num, by rw [hm.out]⟩
        case measure => simp [intOf]; omega
    · obtain rfl : k = n := by omega
      go_wp2
      go_ret
      exact ⟨rfl, rfl⟩
set_option maxHeartbeats 1000000 in
/-- slices.Index at ints: the least -/
theorem f66_any (A : Option Addr) (n c : Nat) (xs : List Int) (w : World) (hs : Ints w A n xs) (hn : 0 < n) :
    Calls Try.prog 66 #[.slice A n c, .int .i64 (xs.getD (whoTo xs n) 0)] w fun e w' => e = .returned (.int .i64 (whoTo xs n : Int)) ∧ w = w' := by
  have hb := hs.small
  have hwl := who_lt xs n hn
  have HF := Lib.hid (fun j h => who_first xs n j h hn)
  obtain ⟨b, off, rfl, hc⟩ := hs.ad hn
  have HC := Lib.hid hc
  have hEQ : Hid (∀ j, j = whoTo xs n → xs.getD j 0 = xs.getD (whoTo xs n) 0) := fun j h => by rw [h]
  generalize xs.getD (whoTo xs n) 0 = m at *
  generalize whoTo xs n = W at *
  clear hs hc
  go_enter Try.func66, Try.ntmps66
  go_wp2
  go_loop [5, 8] (fun _ i => ∃ k : Nat, k ≤ W ∧ i = .int .i64 (k : Int)) (fun _ i => n - (intOf i).toNat)
  case atStart => exact ⟨0, by omega, rfl⟩
  case round =>
    obtain ⟨k, hk, rfl⟩ := hrel
    have hck := HC.out k (by omega)
    have hlt : k < n := by omega
    by_cases hkw : k < W
    · have h2 := HF.out k hkw
      generalize xs.getD k 0 = x at *
      have hne : (m == x) = false := by simp; omega
      go_wp2
      go_round
      case rel => exact ⟨k + 1, by omega, by go_num⟩
      case measure => simp [intOf]; omega
    · obtain rfl : k = W := by omega
      have h2 := hEQ.out k rfl
      rw [h2] at hck
      clear h2 hEQ HF
      go_wp2
      go_ret
      exact ⟨rfl, rfl⟩
/-- Two numbers and an error came back. -/
def Int3 (w : World) (x y err : Int) (e : Ending) (w' : World) : Prop := e = .returned (.tuple #[.int .i64 x, .int .i64 y, .int .i64 err]) ∧ Below w.heap.size w w'
set_option maxRecDepth 100000 in
set_option maxHeartbeats 4000000 in
/-- luck.Best -/
theorem f33_any (A B : Option Addr) (n : Int) (k c m d : Nat) (said : List (List Int)) (came : List Int) (w : World) (hs : IntsS w A k said) (ho : Ints w B m came) :
    Calls Try.prog 33 #[.int .i64 n, .slice A k c, .slice B m d] w (Int3 w (bestWho n said came) (bestFew n said came) (recErr n said came)) := by
  have k60 := Lib.hid (f60_any A B n k c m d said came w hs ho)
  obtain ⟨r1, r2⟩ := recErr_in n said came
  by_cases h0 : recErr n said came = 0
  · obtain ⟨N, rfl, g1, g2, g3, g4, g5, g6⟩ := recErr_facts h0
    have e1 : bestWho (N : Int) said came = (whoTo (wrL said came N k) N : Int) := by unfold bestWho; rw [if_pos h0, Int.toNat_natCast, hs.len]
    have e2 : bestFew (N : Int) said came = ((wrL said came N k).getD (whoTo (wrL said came N k) N) 0 : Int) := by
      unfold bestFew
      rw [if_pos h0, Int.toNat_natCast, hs.len, wrL_get (who_lt _ _ (by omega))]
    have hlen := hs.len
    have hmk0 : m = k := by have := ho.len; omega
    rw [e1, e2, h0]
    rw [h0] at k60
    subst hmk0
    have HS := Lib.hid hs
    have HO := Lib.hid ho
    have HR : Hid (∀ i, i < m → (said.getD i []).length = N) := fun i hi => (g5 i (by omega)).1
    have hm200 : m ≤ 200 := by omega
    clear hs ho h0 g3 g4 g5 g6 e1 e2 r1 r2 hlen
    go_enter Try.func33, Try.ntmps33
    go_wp2_with fail
    refine k60.out.mono ?_
    rintro e w1 ⟨rfl, hb⟩
    have B1 := Lib.hid hb
    clear hb
    have hmk := make_ints N (by omega) w1
    obtain ⟨w2, hw2⟩ : ∃ w2, w2 = w1.alloc (.cells ((List.replicate N (0 : Int)).map (Value.int .i64)).toArray 3) := ⟨_, rfl⟩
    rw [← hw2] at hmk
    have hz2 : w2.heap.size = w1.heap.size + 1 := by rw [hw2]; simp
    have B2 : Hid (Below w.heap.size w w2) := by rw [hw2]; exact below_step B1.out (below_alloc _ _)
    have O2 : Hid (Own w2 w1.heap.size (wrL said came N 0)) := by rw [hw2, wrL_zero]; exact Own.made w1 N
    have HZ2 := Lib.hid hz2
    clear hw2 hz2
    obtain ⟨w3, hw3⟩ : ∃ w3, w3 = w2.alloc (.cells #[.slice (some ⟨w1.heap.size, 0, none⟩) N N] 80) := ⟨_, rfl⟩
    have S0 : Hid (StF w2.heap.size w1.heap.size N said came 0 w3) := by rw [hw3]; exact ⟨cell_new _ _ _ _, O2.out.alloc _⟩
    have B3 : Hid (Below w.heap.size w w3) := by rw [hw3]; exact below_step B2.out (below_alloc _ _)
    have HW3 := Lib.hid hw3
    clear hw3
    have hg0 : Hid (w.heap.size ≤ w1.heap.size ∧ w.heap.size ≤ w2.heap.size) := ⟨B1.out.size, B2.out.size⟩
    go_wp2_with fail
    rw [← HW3.out]
    go_loopw [11, 12, 26] (fun _ _ i wr => ∃ q : Nat, q ≤ m ∧ i = .int .i64 (q : Int) ∧ Hid (StF w2.heap.size w1.heap.size N said came q wr) ∧ Below w.heap.size w wr) (fun _ _ i _ => m - (intOf i).toNat)
    case atStart => exact ⟨0, by omega, rfl, S0, B3.out⟩
    case round => as_aux_lemma =>
      obtain ⟨q, hq, rfl, hSt, hbel⟩ := hrel
      have HB := Lib.hid hbel
      by_cases hlt : q < m
      · obtain ⟨b, off, rfl, D, e, hcr, hi⟩ := HS.out.at_ hlt
        obtain ⟨b2, off2, rfl, hcc⟩ := HO.out.at_ hlt
        have hblk : Hid (0 < (said.getD q []).length → ∀ b off, D = some ⟨b, off, none⟩ → b ≠ w1.heap.size) := fun hn b off hD => by
          obtain ⟨b', off', e', hx⟩ := hi.ad hn
          rw [hD] at e'
          injection e' with e'
          injection e' with e1 e2
          have hlt := lt_of_cell (hx 0 hn)
          simp only at hlt
          have := hg0.out.1
          omega
        have K := Lib.hid (StF.learn (p := w2.heap.size) (g := w1.heap.size) (n := N) (e := e) (i := q) (D := D) (said := said) (came := came) (W := wr) (by omega) (HR.out q hlt) (by omega) (by rw [HZ2.out]; omega) (hi.below hbel) hblk.out hSt.out)
        have hc1 := (hbel.cell (lt_of_cell hcr)).trans hcr
        have hc2 := (hbel.cell (lt_of_cell hcc)).trans hcc
        have hl := HR.out q hlt
        rw [hl] at hc1 K
        have hq0 : (0 : Int) ≤ (q : Int) := by omega
        have hqm : (q : Int) < (m : Int) := by omega
        generalize came.getD q 0 = cq at *
        clear hbel hcr hcc hi hl
        go_wp2_with fail
        refine K.out.mono ?_
        rintro e3 w4 ⟨rfl, hs3, hg3⟩
        have S3 := Lib.hid hs3
        have B4 : Hid (Below w.heap.size w w4) := HB.out.grown hg3 HB.out.size (fun j hj => by injection hj with hj; have := hg0.out.1; omega)
        clear hs3 hg3
        go_wp2_with fail
        go_roundw
        case rel => exact ⟨q + 1, by omega, by go_num, S3, B4.out⟩
        case measure => simp [intOf]; omega
      · obtain rfl : q = m := by omega
        have hcp := hSt.out.1
        have hI : Ints wr (some ⟨w1.heap.size, 0, none⟩) N (wrL said came N q) := hSt.out.2.ints' (wrL_len said came N q) (by omega)
        have k65 := Lib.hid (f65_any _ N N _ wr hI (by omega))
        have k66 := Lib.hid (f66_any _ N N _ wr hI (by omega))
        generalize (wrL said came N q).getD (whoTo (wrL said came N q) N) 0 = y at *
        generalize whoTo (wrL said came N q) N = x at *
        clear hI hbel
        go_wp2_with fail
        refine k65.out.mono ?_
        rintro e w5 ⟨rfl, rfl⟩
        go_wp2_with fail
        refine k66.out.mono ?_
        rintro e w5 ⟨rfl, rfl⟩
        go_wp2_with fail
        go_ret3
        exact ⟨rfl, HB.out⟩
  · have e1 : bestWho n said came = 0 := by unfold bestWho; rw [if_neg h0]
    have e2 : bestFew n said came = 0 := by unfold bestFew; rw [if_neg h0]
    rw [e1, e2]
    generalize recErr n said came = er at *
    have hq : (er != 0) = true := by simpa using h0
    clear hs ho e1 e2 h0
    go_enter Try.func33, Try.ntmps33
    go_wp2_with fail
    refine k60.out.mono ?_
    rintro e w1 ⟨rfl, hb⟩
    have B1 := Lib.hid hb
    clear hb
    go_wp2_with fail
    go_ret3
    exact ⟨rfl, B1.out⟩
end Go.Proofs.Ytfaenbaaadjbbaa
