/- A slice of slices that came in; the walk of ShareCuts. -/
import Derived.Test.YtpehhbiodmgjeaaW19
import Derived.Deep.Matrix
namespace Go.Proofs.Ytpehhbiodmgjeaa
open Go.RowKit Go.Deep

/-- A slice of slices that came in, as a law sees it. -/
def Came2 (w : World) (A : Option Addr) (n : Nat) (xss : List (List Int)) : Prop :=
  xss.length = n ∧ n ≤ 9223372036854775807 ∧ (n ≤ 40 → Lens w A (xss.map List.length)) ∧ (n ≤ 40 → (∀ j, (xss.getD j []).length ≤ 100) → IntsS w A n xss)
theorem ints_of_cells {w : World} {a : Option Addr} {l c : Nat} {z : List Int} (h1 : l ≤ c) (h2 : z.length = c) (h3 : a = none → c = 0) (h4 : ∀ a', a = some a' → ∀ i, i < c → w.cell? (a'.add i) = some (.int .i64 (z.getD i 0))) (hl : l ≤ 100) :
    Ints w a l (z.take l) := by
  refine ⟨by rw [List.length_take]; omega, by omega, fun hp => ?_⟩
  cases a with
  | none => have := h3 rfl; omega
  | some x =>
    obtain ⟨b, off, rfl, hc⟩ := Go.ints_at (fun i hi => h4 x rfl i (by omega)) (by omega : 0 < z.length)
    refine ⟨b, off, rfl, fun j hj => ?_⟩
    rw [hc j (by omega)]
    simp [List.getD_eq_getElem?_getD, hj]
theorem came2_of {w : World} {a1 : Option Addr} {len1 cap1 : Nat} {X : Prop} {Y : Addr → Nat → Nat → (Nat → Option Addr) → (Nat → Nat) → (Nat → List Int) → Prop}
    (h : ([Value.slice a1 len1 cap1] = [.slice none 0 0] ∧ X) ∨ ∃ (a : Addr) (len cap : Nat) (A : Nat → Option Addr) (L C : Nat → Nat) (Z : Nat → List Int), [Value.slice a1 len1 cap1] = [.slice (some a) len cap] ∧ 0 ≤ a.block ∧ len ≤ cap ∧ cap ≤ maxLen ∧ Y a len cap A L Z ∧
      ∀ r, r < cap → w.cell? (a.add r) = some (.slice (A r) (L r) (C r)) ∧ L r ≤ C r ∧ C r ≤ maxLen ∧ (Z r).length = C r ∧ (∀ n ∈ Z r, (Lit.int .i64 n).wf = true) ∧ (A r = none → C r = 0) ∧
        ∀ a', A r = some a' → 0 ≤ a'.block ∧ ∀ c, c < C r → w.cell? (a'.add c) = some (.int .i64 ((Z r).getD c 0))) : ∃ xss, Came2 w a1 len1 xss := by
  rcases h with ⟨e, _⟩ | ⟨a, len, cap, A, L, C, Z, e, _, hl, hm, _, hr⟩
  · simp only [List.cons.injEq, Value.slice.injEq, and_true] at e
    obtain ⟨rfl, rfl, rfl⟩ := e
    exact ⟨[], rfl, by omega, fun _ => ⟨by simp, fun h => absurd h (by simp), fun j => by simp⟩, fun _ _ => ⟨rfl, by omega, fun h => absurd h (by omega)⟩⟩
  · simp only [List.cons.injEq, Value.slice.injEq, and_true] at e
    obtain ⟨rfl, rfl, rfl⟩ := e
    have hlen : ∀ r, r < len1 → ((Z r).take (L r)).length = L r := fun r h => by
      obtain ⟨_, h1, _, h2, _⟩ := hr r (by omega)
      rw [List.length_take]; omega
    have hget : ∀ r, r < len1 → ((List.range len1).map fun r => (Z r).take (L r)).getD r [] = (Z r).take (L r) := fun r h => by
      simp [List.getD_eq_getElem?_getD, h]
    have hspot : 0 < len1 → ∃ b off, a = ⟨b, off, none⟩ := fun hp => by
      obtain ⟨b, off, spot⟩ := a
      have hs : spot = none := by simpa [Addr.add] using World.cell?_spot (hr 0 (by omega)).1
      exact ⟨b, off, by rw [hs]⟩
    refine ⟨(List.range len1).map fun r => (Z r).take (L r), by simp, by unfold maxLen at hm; omega, fun hn => ⟨by simp; omega, fun hp => ?_, fun j => ?_⟩, fun hn hsm => ⟨by simp, by omega, fun hp => ?_⟩⟩
    · simp only [List.length_map, List.length_range] at hp
      obtain ⟨b, off, rfl⟩ := hspot hp
      refine ⟨b, off, rfl, fun j hj => ?_⟩
      simp only [List.length_map, List.length_range] at hj
      refine ⟨A j, C j, ?_⟩
      have := (hr j (by omega)).1
      rw [Go.WideShapes.add_plain] at this
      rw [this]
      have h2 := hlen j hj
      rw [List.length_take] at h2
      simp [List.getD_eq_getElem?_getD, hj, h2]
    · by_cases hj : j < len1
      · have h2 := hlen j hj
        obtain ⟨_, h1, h3, _⟩ := hr j (by omega)
        unfold maxLen at h3
        rw [List.length_take] at h2
        simp [List.getD_eq_getElem?_getD, hj]; omega
      · simp [List.getD_eq_getElem?_getD, hj]
    · obtain ⟨b, off, rfl⟩ := hspot hp
      refine ⟨b, off, rfl, fun j hj => ⟨A j, C j, ?_, ?_⟩⟩
      · have := (hr j (by omega)).1
        rw [Go.WideShapes.add_plain] at this
        rw [this, hget j hj, hlen j hj]
      · have h9 := hsm j
        rw [hget j hj, hlen j hj] at h9 ⊢
        obtain ⟨_, h1, _, h2, _, h3, h4⟩ := hr j (by omega)
        exact ints_of_cells h1 h2 h3 (fun a' ha => (h4 a' ha).2) h9

theorem fewB_get {xss : List (List Int)} (h : fewB (xss.map List.length) = true) (j : Nat) : (xss.getD j []).length ≤ 100 := by
  by_cases hj : j < xss.length
  · unfold fewB at h
    rw [List.all_eq_true] at h
    have := h _ (List.mem_map_of_mem (List.getElem_mem hj))
    simpa [List.getD_eq_getElem?_getD, hj] using this
  · simp [List.getD_eq_getElem?_getD, hj]

set_option maxHeartbeats 2000000 in
/-- dibberlaw08.ShareCuts -/
theorem f5_any (n : Int) (A : Option Addr) (len c : Nat) (xss : List (List Int)) (w : World) (hs : Came2 w A len xss) :
    Calls Try.prog 5 #[.int .i64 n, .slice A len c] w fun e w' => e = .returned (.bool true) ∧ Below w.heap.size w w' := by
  obtain ⟨h1, h2, h3, h4⟩ := hs
  by_cases h40 : 40 < len
  · clear h1 h3 h4
    go_enter Try.func5, Try.ntmps5
    go_wp2_with fail
    refine (f15_any _).mono ?_
    rintro e w6 ⟨rfl, hb6⟩
    have B6 := Lib.hid hb6
    clear hb6
    go_wp2_with fail
    go_ret
    exact ⟨rfl, B6.out⟩
  have k14 := Lib.hid (f14_any A c len _ w (h3 (by omega)) (by rw [List.length_map, h1]))
  cases hf : fewB (xss.map List.length)
  · rw [hf] at k14
    clear h1 h3 h4 hf
    go_enter Try.func5, Try.ntmps5
    go_wp2_with fail
    refine k14.out.mono ?_
    rintro e w' ⟨rfl, rfl⟩
    go_wp2_with fail
    refine (f15_any _).mono ?_
    rintro e w6 ⟨rfl, hb6⟩
    have B6 := Lib.hid hb6
    clear hb6
    go_wp2_with fail
    go_ret
    exact ⟨rfl, B6.out⟩
  · rw [hf] at k14
    have hI := Lib.hid (h4 (by omega) (fewB_get hf))
    clear h1 h3 h4 hf
    go_enter Try.func5, Try.ntmps5
    go_wp2_with fail
    refine k14.out.mono ?_
    rintro e w' ⟨rfl, rfl⟩
    go_wp2_with fail
    refine (f22_any A n len c xss _ hI.out).mono ?_
    rintro e w3 ⟨A3, k3, c3, rfl, hi3, hb3⟩
    have I3 := Lib.hid (hI.out.below hb3)
    have B3 := Lib.hid hb3
    have J3 := Lib.hid hi3
    clear hb3 hi3
    go_wp2_with fail
    refine (f23_any A n len c xss _ I3.out).mono ?_
    rintro e w4 ⟨A4, k4, c4, rfl, hi4, hb4⟩
    have B4 := Lib.hid (below_step B3.out hb4)
    have J4 := Lib.hid (J3.out.below hb4)
    have L4 := Lib.hid hi4
    clear hb4 hi4
    go_wp2_with fail
    refine (f20_any _ _ _ _ _ _ _ _ _ J4.out L4.out).mono ?_
    rintro e w5 ⟨rfl, hd5⟩
    have B5 := Lib.hid (below_step B4.out (below_draw hd5))
    have ht : decide (cutR n xss = cutR n xss) = true := decide_eq_true rfl
    rw [ht]
    clear hd5
    go_wp2_with fail
    refine (f15_any _).mono ?_
    rintro e w6 ⟨rfl, hb6⟩
    have B6 := Lib.hid (below_step B5.out hb6)
    clear hb6
    go_wp2_with fail
    go_ret
    exact ⟨rfl, B6.out⟩
end Go.Proofs.Ytpehhbiodmgjeaa
