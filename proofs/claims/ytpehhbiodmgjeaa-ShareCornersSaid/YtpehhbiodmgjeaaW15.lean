/- What a law's opening gives: slices that came in as lists; the slices that few is handed; and the walk of ShareLeast. -/
import Derived.Test.YtpehhbiodmgjeaaW14
import Derived.OpenShut
namespace Go.Proofs.Ytpehhbiodmgjeaa
open Go.RowKit

theorem ints_of_row {w : World} {a : Option Addr} {len cap : Nat} {zs : List Int}
    (h : (a = none ∧ len = 0 ∧ cap = 0 ∧ zs = []) ∨ ∃ x, a = some x ∧ len ≤ cap ∧ cap ≤ maxLen ∧ zs.length = cap ∧ (∀ i, i < zs.length → w.cell? (x.add i) = some (.int .i64 (zs.getD i 0))) ∧ ∀ n ∈ zs, (Lit.int .i64 n).wf = true)
    (hl : len ≤ 17592186044415) : Ints w a len (zs.take len) := by
  rcases h with ⟨rfl, rfl, rfl, rfl⟩ | ⟨x, rfl, h1, h2, h3, h4, h5⟩
  · exact Ints.nil _ _
  · refine ⟨by rw [List.length_take]; omega, hl, fun hp => ?_⟩
    obtain ⟨b, off, rfl, hc⟩ := Go.ints_at h4 (by omega)
    refine ⟨b, off, rfl, fun j hj => ?_⟩
    rw [hc j (by omega)]
    simp [List.getD_eq_getElem?_getD, hj]
theorem len_of_row {w : World} {a : Option Addr} {len cap : Nat} {zs : List Int}
    (h : (a = none ∧ len = 0 ∧ cap = 0 ∧ zs = []) ∨ ∃ x, a = some x ∧ len ≤ cap ∧ cap ≤ maxLen ∧ zs.length = cap ∧ (∀ i, i < zs.length → w.cell? (x.add i) = some (.int .i64 (zs.getD i 0))) ∧ ∀ n ∈ zs, (Lit.int .i64 n).wf = true) :
    len ≤ 9223372036854775807 := by
  rcases h with ⟨rfl, rfl, rfl, rfl⟩ | ⟨x, rfl, h1, h2, _⟩
  · omega
  · unfold maxLen at h2; omega
/-- A slice that came in, as a law sees it: known as a list if it is short enough. -/
def Came (w : World) (A : Option Addr) (len : Nat) (xs : List Int) : Prop := len ≤ 9223372036854775807 ∧ (len ≤ 100 → Ints w A len xs)
theorem came_of_row {w : World} {a : Option Addr} {len cap : Nat} {zs : List Int}
    (h : (a = none ∧ len = 0 ∧ cap = 0 ∧ zs = []) ∨ ∃ x, a = some x ∧ len ≤ cap ∧ cap ≤ maxLen ∧ zs.length = cap ∧ (∀ i, i < zs.length → w.cell? (x.add i) = some (.int .i64 (zs.getD i 0))) ∧ ∀ n ∈ zs, (Lit.int .i64 n).wf = true) :
    Came w a len (zs.take len) := ⟨len_of_row h, fun hl => ints_of_row h (by omega)⟩
theorem Came.len {w : World} {A : Option Addr} {len : Nat} {xs : List Int} (h : Came w A len xs) : len ≤ 9223372036854775807 := h.1

/-- The slices that few is handed, in a new block. -/
theorem lens_lit (w : World) (vs : List (Option Addr × Nat × Nat)) (h : vs.length ≤ 100) (hl : ∀ v ∈ vs, v.2.1 ≤ 9223372036854775807) :
    Lens (w.alloc (.cells (vs.map fun v => Value.slice v.1 v.2.1 v.2.2).toArray 22)) (some ⟨w.heap.size, 0, none⟩) (vs.map fun v => v.2.1) := by
  refine ⟨by rw [List.length_map]; omega, fun _ => ⟨w.heap.size, 0, rfl, fun j hj => ?_⟩, fun j => ?_⟩
  · rw [List.length_map] at hj
    refine ⟨(vs[j]).1, (vs[j]).2.2, ?_⟩
    rw [Nat.zero_add, cell_new]
    simp [List.getD_eq_getElem?_getD, hj]
  · by_cases hj : j < vs.length
    · have := hl _ (List.getElem_mem hj)
      simpa [List.getD_eq_getElem?_getD, hj] using this
    · simp [List.getD_eq_getElem?_getD, List.getElem?_eq_none (by omega : vs.length ≤ j)]
theorem c14_1 (A : Option Addr) (n c : Nat) (w : World) (hn : n ≤ 9223372036854775807) :
    Calls Try.prog 14 #[.slice (some ⟨w.heap.size, 0, none⟩) 1 1] (w.alloc (.cells #[.slice A n c] 22)) fun e w' => e = .returned (.bool (decide (n ≤ 100))) ∧ w.alloc (.cells #[.slice A n c] 22) = w' := by
  refine (f14_any _ 1 1 _ _ (lens_lit w [(A, n, c)] (by simp) (by simpa using hn)) rfl).mono ?_
  rintro e w' ⟨rfl, rfl⟩
  exact ⟨by simp [fewB], rfl⟩

set_option maxHeartbeats 2000000 in
/-- dibberlaw08.ShareLeast -/
theorem f3_any (n : Int) (A : Option Addr) (len c : Nat) (xs : List Int) (w : World) (hs : Came w A len xs) :
    Calls Try.prog 3 #[.int .i64 n, .slice A len c] w fun e w' => e = .returned (.bool true) ∧ Below w.heap.size w w' := by
  have k14 := Lib.hid (c14_1 A len c w hs.len)
  have b0 := Lib.hid (below_alloc w (.cells #[.slice A len c] 22))
  by_cases hl : len ≤ 100
  · have hI := Lib.hid ((hs.2 hl).below b0.out)
    rw [decide_eq_true hl] at k14
    clear hs hl
    go_enter Try.func3, Try.ntmps3
    go_wp2_with fail
    refine k14.out.mono ?_
    rintro e w' ⟨rfl, rfl⟩
    go_wp2_with fail
    refine (f16_any A n len c xs _ hI.out).mono ?_
    rintro e w1 ⟨rfl, hb1⟩
    have I1 := Lib.hid (hI.out.below hb1)
    have B1 := Lib.hid (below_step b0.out hb1)
    clear hb1
    go_wp2_with fail
    refine (f17_any A n len c xs _ I1.out).mono ?_
    rintro e w2 ⟨rfl, hd2⟩
    have I2 := Lib.hid (I1.out.below (below_draw hd2))
    have B2 := Lib.hid (below_step B1.out (below_draw hd2))
    clear hd2
    go_wp2_with fail
    refine (f18_any A n len c xs _ I2.out).mono ?_
    rintro e w3 ⟨A3, k3, c3, rfl, hi3, hb3⟩
    have I3 := Lib.hid (I2.out.below hb3)
    have B3 := Lib.hid (below_step B2.out hb3)
    have J3 := Lib.hid hi3
    clear hb3 hi3
    go_wp2_with fail
    refine (f19_any A n len c xs _ I3.out).mono ?_
    rintro e w4 ⟨A4, k4, c4, rfl, hi4, hb4⟩
    have B4 := Lib.hid (below_step B3.out hb4)
    have J4 := Lib.hid (J3.out.below hb4)
    have L4 := Lib.hid hi4
    clear hb4 hi4
    go_wp2_with fail
    refine (f20_any _ _ _ _ _ _ _ _ _ J4.out L4.out).mono ?_
    rintro e w5 ⟨rfl, hd5⟩
    have B5 := Lib.hid (below_step B4.out (below_draw hd5))
    have ht : decide (proofR n xs = proofR n xs) = true := decide_eq_true rfl
    rw [ht]
    clear hd5
    go_wp2_with fail
    refine (f15_any _).mono ?_
    rintro e w6 ⟨rfl, hb6⟩
    have B6 := Lib.hid (below_step B5.out hb6)
    clear hb6
    go_wp2_with fail
    go_ret
    exact ⟨rfl, B6.out⟩
  · rw [decide_eq_false hl] at k14
    clear hs hl
    go_enter Try.func3, Try.ntmps3
    go_wp2_with fail
    refine k14.out.mono ?_
    rintro e w' ⟨rfl, rfl⟩
    go_wp2_with fail
    refine (f15_any _).mono ?_
    rintro e w6 ⟨rfl, hb6⟩
    have B6 := Lib.hid (below_step b0.out hb6)
    clear hb6
    go_wp2_with fail
    go_ret
    exact ⟨rfl, B6.out⟩
end Go.Proofs.Ytpehhbiodmgjeaa
