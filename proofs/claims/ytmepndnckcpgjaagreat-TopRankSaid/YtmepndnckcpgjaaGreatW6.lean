/- Walks: sized, submodular, Least (both), Check (both). -/
import Derived.Test.YtmepndnckcpgjaaGreatW5
namespace Go.Proofs.YtmepndnckcpgjaaGreat
open Go.RowKit

set_option maxHeartbeats 1000000 in
/-- share.sized, refused -/
theorem f52_no (A : Option Addr) (n : Int) (len c : Nat) (xs : List Int) (w : World) (hs : Ints w A len xs) (h : costOk n xs = false) :
    Calls Tryz.prog 18 #[.int .i64 n, .slice A len c] w fun e w' => e = .returned (.tuple #[.pointer none, .int .i64 2]) ∧ w = w' := by
  have k84 : Hid (Calls Tryz.prog 44 #[.slice A len c, .func (.func 43) #[] #[]] w fun e w' => e = .returned (.bool (xs.any outC)) ∧ w = w') :=
    f84_any A len c xs 43 #[] outC w hs enter83 fun k _ => f83_any _ _
  have hsm := hs.small
  by_cases h1 : n < 1
  · clear h
    go_enter Tryz.func18, Tryz.ntmps18
    go_wp2
    go_ret2
    exact ⟨rfl, rfl⟩
  by_cases h2 : 6 < n
  · clear h
    go_enter Tryz.func18, Tryz.ntmps18
    go_wp2
    go_ret2
    exact ⟨rfl, rfl⟩
  obtain ⟨m, rfl⟩ := nat_of n (by omega)
  obtain ⟨N, hN, hshl⟩ := shl_one m (by omega)
  have hN1 : 1 ≤ N := by rw [hN]; exact Nat.pow_pos (by omega)
  have hN2 : N ≤ 64 := by rw [hN]; exact pow6 m (by omega)
  have HN := Lib.hid hN
  clear hN
  have hle := Lib.hid hs.len
  by_cases hl : len = N
  · have hz : xs.any outC = true ∨ (xs.any outC = false ∧ xs.getD 0 0 ≠ 0) := by
      unfold costOk at h
      rw [hle.out, Int.toNat_natCast, ← HN.out] at h
      cases ha : xs.any outC
      · right
        rw [ha] at h
        simp [hl] at h
        exact ⟨rfl, by simpa using h (by omega) (by omega)⟩
      · exact .inl rfl
    clear h
    subst hl
    rcases hz with hz | ⟨hz, hz0⟩
    · rw [hz] at k84
      clear hz
      go_enter Tryz.func18, Tryz.ntmps18
      go_wp2_with fail
      refine k84.out.mono ?_
      rintro e w' ⟨rfl, rfl⟩
      go_wp2
      go_ret2
      exact ⟨rfl, rfl⟩
    · rw [hz] at k84
      obtain ⟨b, off, rfl, hc⟩ := hs.at_ (k := 0) (by omega)
      simp only [Nat.add_zero] at hc
      have hq : (xs[0]?.getD 0 != 0) = true := by simpa using hz0
      clear hz hz0
      go_enter Tryz.func18, Tryz.ntmps18
      go_wp2_with fail
      refine k84.out.mono ?_
      rintro e w' ⟨rfl, rfl⟩
      go_wp2
      go_ret2
      exact ⟨rfl, rfl⟩
  · have hq : ((len : Int) != (N : Int)) = true := by simp; omega
    clear h
    go_enter Tryz.func18, Tryz.ntmps18
    go_wp2
    go_ret2
    exact ⟨rfl, rfl⟩

set_option maxHeartbeats 1000000 in
/-- share.sized, taken -/
theorem f52_yes (A : Option Addr) (n : Nat) (len c : Nat) (xs : List Int) (w : World) (hs : Ints w A len xs) (h : costOk n xs = true) :
    Calls Tryz.prog 18 #[.int .i64 (n : Int), .slice A len c] w fun e w' =>
      e = .returned (.tuple #[.pointer (some ⟨w.heap.size, 0, none⟩), .int .i64 0]) ∧ w.alloc (.cells #[.int .i64 (n : Int), .slice A len c] 70) = w' := by
  have k84 : Hid (Calls Tryz.prog 44 #[.slice A len c, .func (.func 43) #[] #[]] w fun e w' => e = .returned (.bool (xs.any outC)) ∧ w = w') :=
    f84_any A len c xs 43 #[] outC w hs enter83 fun k _ => f83_any _ _
  have hall : xs.any outC = false := by
    unfold costOk at h
    simp only [Bool.and_eq_true, Bool.not_eq_true'] at h
    exact h.1.2
  rw [hall] at k84
  clear hall
  obtain ⟨m, hm, h1, h6, hln, hbd, h0⟩ := costOk_facts h
  obtain rfl : n = m := by omega
  clear hm h
  obtain ⟨N, hN, hshl⟩ := shl_one n (by omega)
  have hN1 : 1 ≤ N := by rw [hN]; exact Nat.pow_pos (by omega)
  have hl : len = N := by rw [← hs.len, hln, hN]
  clear hN hln
  subst hl
  obtain ⟨b, off, rfl, hc⟩ := hs.at_ (k := 0) (by omega)
  simp only [Nat.add_zero] at hc
  have hsm := hs.small
  have hq : (xs[0]?.getD 0 != 0) = false := by simpa using h0
  clear h0
  go_enter Tryz.func18, Tryz.ntmps18
  go_wp2_with fail
  refine k84.out.mono ?_
  rintro e w' ⟨rfl, rfl⟩
  go_wp2
  go_ret2
  exact ⟨rfl, rfl⟩

theorem Costs.new (w : World) (n : Int) (A : Option Addr) (len c : Nat) : Costs (w.alloc (.cells #[.int .i64 n, .slice A len c] 70)) w.heap.size n A len c :=
  ⟨cell_new w _ _ 0, cell_new w _ _ 1⟩
theorem Costs.drewN {w : World} {p : Nat} {n : Int} {A : Option Addr} {len c : Nat} (h : Costs w p n A len c) (m : Nat) : Costs (w.drewN m) p n A len c := h

set_option maxHeartbeats 1000000 in
/-- share.submodular, taken -/
theorem f44_yes (A : Option Addr) (n : Nat) (len c : Nat) (xs : List Int) (w : World) (hs : Ints w A len xs) (h : asked n xs = 0) :
    Calls Tryz.prog 20 #[.int .i64 (n : Int), .slice A len c] w fun e w' =>
      ∃ p, e = .returned (.tuple #[.pointer (some ⟨p, 0, none⟩), .int .i64 0]) ∧ Costs w' p n A len c ∧ Ints w' A len xs ∧ Below w.heap.size w w' ∧ w.heap.size ≤ p := by
  obtain ⟨hok, hT⟩ := asked_zero h
  obtain ⟨m, hm, h1, h6, hln, hbd, h0⟩ := costOk_facts hok
  obtain rfl : n = m := by omega
  have k52 := Lib.hid (f52_yes A n len c xs w hs hok)
  have hc' := Costs.new w n A len c
  have hs' := hs.below (below_alloc w (.cells #[.int .i64 (n : Int), .slice A len c] 70))
  have k53 := Lib.hid (f53_any w.heap.size n A n len c xs _ hc' hs' h6 (by rw [← hs.len]; exact hln) hbd)
  rw [hT] at k53
  have HC := Lib.hid hc'
  have HS := Lib.hid hs'
  clear hc' hs' hm hln hok hT h h0 hbd
  go_enter Tryz.func20, Tryz.ntmps20
  go_wp2_with fail
  refine k52.out.mono ?_
  rintro e w' ⟨rfl, rfl⟩
  go_wp2_with fail
  refine k53.out.mono ?_
  rintro e w' ⟨rfl, md, rfl⟩
  go_wp2
  go_ret2
  exact ⟨_, rfl, HC.out.drewN md, HS.out.drewN md, below_drewN (below_alloc _ _) _, Nat.le_refl _⟩

set_option maxHeartbeats 1000000 in
/-- share.submodular, refused -/
theorem f44_no (A : Option Addr) (n : Int) (len c : Nat) (xs : List Int) (w : World) (hs : Ints w A len xs) (h : asked n xs ≠ 0) :
    Calls Tryz.prog 20 #[.int .i64 n, .slice A len c] w fun e w' =>
      e = .returned (.tuple #[.pointer none, .int .i64 (asked n xs)]) ∧ Below w.heap.size w w' := by
  rcases asked_cases n xs with ⟨hok, he⟩ | ⟨hok, hT, he⟩ | ⟨hok, hT, he⟩
  · have k52 := Lib.hid (f52_no A n len c xs w hs hok)
    rw [he]
    clear h hok he
    go_enter Tryz.func20, Tryz.ntmps20
    go_wp2_with fail
    refine k52.out.mono ?_
    rintro e w' ⟨rfl, rfl⟩
    go_wp2
    go_ret2
    exact ⟨rfl, Below.refl _ _⟩
  · obtain ⟨m, rfl, h1, h6, hln, hbd, h0⟩ := costOk_facts hok
    have k52 := Lib.hid (f52_yes A m len c xs w hs hok)
    have hc' := Costs.new w m A len c
    have hs' := hs.below (below_alloc w (.cells #[.int .i64 (m : Int), .slice A len c] 70))
    have k53 := Lib.hid (f53_any w.heap.size m A m len c xs _ hc' hs' h6 (by rw [← hs.len]; exact hln) hbd)
    rw [hT] at k53
    rw [he]
    clear hc' hs' hln hok hT h h0 hbd he
    go_enter Tryz.func20, Tryz.ntmps20
    go_wp2_with fail
    refine k52.out.mono ?_
    rintro e w' ⟨rfl, rfl⟩
    go_wp2_with fail
    refine k53.out.mono ?_
    rintro e w' ⟨rfl, md, rfl⟩
    go_wp2
    go_ret2
    exact ⟨rfl, below_drewN (below_alloc _ _) _⟩
  · exact absurd he h

theorem results_tmp4 {fn : Func} {t u v x : Tmp} (h : fn.results = #[.tmp t, .tmp u, .tmp v, .tmp x]) (tmps : Array Value) (P : Program) (w : World) :
    (results fn tmps).run P w = .ok (.tuple #[tmps.getD t undef, tmps.getD u undef, tmps.getD v undef, tmps.getD x undef]) w := by simp [results, h]

end Go.Proofs.YtmepndnckcpgjaaGreat
