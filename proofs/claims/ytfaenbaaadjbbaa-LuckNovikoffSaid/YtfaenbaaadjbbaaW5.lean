/- Walks: same, few; what a law is handed. -/
import Derived.Test.YtfaenbaaadjbbaaW4
import Derived.OpenShut
import Derived.Deep.Matrix
namespace Go.Proofs.Ytfaenbaaadjbbaa
open Go.RowKit Go.Deep

theorem getD_ext {xs ys : List Int} (hl : xs.length = ys.length) (h : ∀ j, j < xs.length → xs.getD j 0 = ys.getD j 0) : xs = ys := by
  apply List.ext_getElem hl
  intro i h1 h2
  have := h i h1
  simpa [List.getD_eq_getElem?_getD, h1, h2] using this

set_option maxHeartbeats 1000000 in
/-- dibberlaw05.same -/
theorem f28_any (A B : Option Addr) (n c m d : Nat) (xs ys : List Int) (w : World) (hs : Ints w A n xs) (ho : Ints w B m ys) :
    Calls Try.prog 28 #[.slice A n c, .slice B m d] w fun e w' => e = .returned (.bool (decide (xs = ys))) ∧ ∃ k, w' = w.drewN k := by
  have hsm := hs.small
  have hsm2 := ho.small
  have hl1 := Lib.hid hs.len
  have hl2 := Lib.hid ho.len
  by_cases hnm : n = m
  · subst hnm
    have HS := Lib.hid hs
    have HO := Lib.hid ho
    clear hs ho
    go_enter Try.func28, Try.ntmps28
    go_wp2
    go_loopw [5] (fun i wr => ∃ k : Nat, k ≤ n ∧ i = .int .i64 k ∧ (∀ j, j < k → xs.getD j 0 = ys.getD j 0) ∧ ∃ q, wr = w.drewN q) (fun i _ => n - (intOf i).toNat)
    case atStart => exact ⟨0, by omega, rfl, fun j hj => absurd hj (by omega), 0, rfl⟩
    case round =>
      obtain ⟨k, hk, rfl, hbef, q, rfl⟩ := hrel
      have HB := Lib.hid hbef
      clear hbef
      by_cases hlt : k < n
      · obtain ⟨b, off, rfl, hc⟩ := (HS.out).at_ hlt
        obtain ⟨b2, off2, rfl, hc2⟩ := (HO.out).at_ hlt
        have hx : Hid (∀ u v, xs.getD k 0 = u → ys.getD k 0 = v → u ≠ v → decide (xs = ys) = false) := fun u v h1 h2 h3 => by
          apply decide_eq_false
          rintro rfl
          exact h3 (h1.symm.trans h2)
        have hx2 : Hid (∀ u v, xs.getD k 0 = u → ys.getD k 0 = v → u = v → xs.getD k 0 = ys.getD k 0) := fun u v h1 h2 h3 => by rw [h1, h2, h3]
        generalize hu : xs.getD k 0 = u at *
        generalize hv : ys.getD k 0 = v at *
        have HU := Lib.hid hu
        have HV := Lib.hid hv
        clear hu hv
        by_cases he : u = v
        · have hq : (u != v) = false := by simpa using he
          have HE := Lib.hid he
          clear he
          go_wp2
          go_quiet (fail)
          go_wp2
          go_roundw
          case rel => exact ⟨k + 1, by omega, by go_num, fun j hj => by
            rcases Nat.lt_or_ge j k with h | h
            · exact HB.out j h
            · obtain rfl : j = k := by omega
              rw [HU.out, HV.out, HE.out], by first | exact ⟨_, rfl⟩ | exact ⟨_, World.drewN_drewN _ _ _⟩⟩
          case measure => simp [intOf]; omega
        · have hq : (u != v) = true := by simpa using he
          have HF := Lib.hid (hx.out u v rfl rfl he)
          clear he
          go_wp2
          go_quiet (fail)
          go_wp2
          go_ret
          exact ⟨ret_bool HF.out.symm, by first | exact ⟨_, rfl⟩ | exact ⟨_, World.drewN_drewN _ _ _⟩⟩
      · obtain rfl : k = n := by omega
        have hfin : Hid (decide (xs = ys) = true) := decide_eq_true (getD_ext (by rw [hl1.out, hl2.out]) (fun j hj => HB.out j (by rw [hl1.out] at hj; exact hj)))
        go_wp2
        go_ret
        exact ⟨ret_bool hfin.out.symm, q, rfl⟩
  · have hq : ((n : Int) != (m : Int)) = true := by simp; omega
    have hfin : Hid (decide (xs = ys) = false) := decide_eq_false (by rintro rfl; exact hnm (hl1.out.symm.trans hl2.out))
    clear hnm
    go_enter Try.func28, Try.ntmps28
    go_wp2
    go_ret
    exact ⟨ret_bool hfin.out.symm, 0, rfl⟩

/-- A slice of slices of which the lengths are told. -/
def Lens (w : World) (A : Option Addr) (n : Nat) (ls : List Nat) : Prop :=
  ls.length = n ∧ n ≤ 9223372036854775807 ∧ (0 < n → ∃ b off, A = some ⟨b, off, none⟩ ∧ ∀ j, j < n → ∃ B c, w.cell? ⟨b, off + j, none⟩ = some (.slice B (ls.getD j 0) c)) ∧ ∀ j, ls.getD j 0 ≤ 9223372036854775807
def fewB (ls : List Nat) (m : Nat) : Bool := decide (ls.length ≤ 250) && ls.all (fun l => decide (l ≤ 40)) && decide (m ≤ 1100)
theorem fewB_bad (ls : List Nat) (m k : Nat) (hk : k < ls.length) (h : 40 < ls.getD k 0) : fewB ls m = false := by
  unfold fewB
  have : ls.all (fun l => decide (l ≤ 40)) = false := by
    rw [List.all_eq_false]
    refine ⟨ls[k], List.getElem_mem hk, ?_⟩
    simp [List.getD_eq_getElem?_getD, hk] at h
    simpa using h
  rw [this, Bool.and_false, Bool.false_and]
theorem fewB_long (ls : List Nat) (m : Nat) (h : 250 < ls.length) : fewB ls m = false := by
  unfold fewB
  rw [decide_eq_false (by omega), Bool.false_and, Bool.false_and]
theorem fewB_all (ls : List Nat) (m : Nat) (h0 : ls.length ≤ 250) (h : ∀ j, j < ls.length → ls.getD j 0 ≤ 40) : fewB ls m = decide (m ≤ 1100) := by
  unfold fewB
  have : ls.all (fun l => decide (l ≤ 40)) = true := by
    rw [List.all_eq_true]
    intro x hx
    obtain ⟨j, hj, rfl⟩ := List.getElem_of_mem hx
    have := h j hj
    simp [List.getD_eq_getElem?_getD, hj] at this
    simpa using this
  rw [this, decide_eq_true h0, Bool.true_and, Bool.true_and]

set_option maxRecDepth 100000 in
set_option maxHeartbeats 1000000 in
/-- dibberlaw05.few -/
theorem f15_any (A B : Option Addr) (c n m d : Nat) (ls : List Nat) (w : World) (hs : Lens w A n ls) (hm : m ≤ 9223372036854775807) :
    Calls Try.prog 15 #[.slice A n c, .slice B m d] w fun e w' => e = .returned (.bool (fewB ls m)) ∧ w = w' := by
  obtain ⟨hn, hsm, hc, hsz⟩ := hs
  have HC := Lib.hid hc
  have HN := Lib.hid hn
  have HZ := Lib.hid hsz
  clear hc hn hsz
  go_enter Try.func15, Try.ntmps15
  go_wp2
  go_loop [5] (fun i => ∃ k : Nat, k ≤ n ∧ k ≤ 250 ∧ i = .int .i64 k ∧ (∀ j, j < k → ls.getD j 0 ≤ 40)) (fun i => n - (intOf i).toNat)
  case atStart => exact ⟨0, by omega, by omega, rfl, fun j hj => absurd hj (by omega)⟩
  case round =>
    obtain ⟨k, hk, hk2, rfl, hbef⟩ := hrel
    have HB := Lib.hid hbef
    clear hbef
    by_cases hlt : k < n
    · by_cases h250 : 250 ≤ k
      · have HF := Lib.hid (fewB_long ls m (by rw [HN.out]; omega))
        go_wp2
        go_ret
        exact ⟨ret_bool HF.out.symm, rfl⟩
      obtain ⟨b, off, rfl, hc⟩ := HC.out (by omega)
      obtain ⟨C, e, hc⟩ := hc k hlt
      have hx : Hid (40 < ls.getD k 0 → fewB ls m = false) := fewB_bad ls m k (by rw [HN.out]; exact hlt)
      have hz := HZ.out k
      generalize hu : ls.getD k 0 = u at *
      have HU := Lib.hid hu
      clear hu
      by_cases he : 40 < u
      · have HF := Lib.hid (hx.out he)
        go_wp2
        go_ret
        exact ⟨ret_bool HF.out.symm, rfl⟩
      · go_wp2
        go_round
        case rel => exact ⟨k + 1, by omega, by omega, by go_num, fun j hj => by
          rcases Nat.lt_or_ge j k with h | h
          · exact HB.out j h
          · obtain rfl : j = k := by omega
            rw [HU.out]; omega⟩
        case measure => simp [intOf]; omega
    · obtain rfl : k = n := by omega
      have HF := Lib.hid (fewB_all ls m (by rw [HN.out]; exact hk2) (by rw [HN.out]; exact HB.out))
      by_cases h11 : m ≤ 1100
      · have HG : Hid (decide ((m : Int) ≤ 1100) = fewB ls m) := by rw [HF.out, decide_eq_true h11]; exact decide_eq_true (by omega)
        go_wp2
        go_ret
        exact ⟨ret_bool HG.out, rfl⟩
      · have HG : Hid (decide ((m : Int) ≤ 1100) = fewB ls m) := by rw [HF.out, decide_eq_false h11]; exact decide_eq_false (by omega)
        go_wp2
        go_ret
        exact ⟨ret_bool HG.out, rfl⟩

theorem ints_of_row {w : World} {a : Option Addr} {len cap : Nat} {zs : List Int}
    (h : (a = none ∧ len = 0 ∧ cap = 0 ∧ zs = []) ∨ ∃ x, a = some x ∧ len ≤ cap ∧ cap ≤ maxLen ∧ zs.length = cap ∧ (∀ i, i < zs.length → w.cell? (x.add i) = some (.int .i64 (zs.getD i 0))) ∧ ∀ n ∈ zs, (Lit.int .i64 n).wf = true)
    (hl : len ≤ 17592186044415) : Ints w a len (zs.take len) := by
  rcases h with ⟨rfl, rfl, rfl, rfl⟩ | ⟨x, rfl, h1, h2, h3, h4, h5⟩
  · exact Ints.nil _ _
  · refine ⟨by rw [List.length_take]; omega, hl, fun hp => ?_⟩
    obtain ⟨b, off, rfl, hc⟩ := Go.ints_at h4 (by omega)
    refine ⟨b, off, rfl, fun j hj => ?_⟩
    rw [hc j (by omega)]
    simp [List.getD_eq_getElem?_getD, hj]
theorem len_of_row {w : World} {a : Option Addr} {len cap : Nat} {zs : List Int}
    (h : (a = none ∧ len = 0 ∧ cap = 0 ∧ zs = []) ∨ ∃ x, a = some x ∧ len ≤ cap ∧ cap ≤ maxLen ∧ zs.length = cap ∧ (∀ i, i < zs.length → w.cell? (x.add i) = some (.int .i64 (zs.getD i 0))) ∧ ∀ n ∈ zs, (Lit.int .i64 n).wf = true) :
    len ≤ 9223372036854775807 := by
  rcases h with ⟨rfl, rfl, rfl, rfl⟩ | ⟨x, rfl, h1, h2, _⟩
  · omega
  · unfold maxLen at h2; omega
/-- A slice that came in, as a law sees it: known as a list if it is short enough. -/
def Came (w : World) (A : Option Addr) (len : Nat) (xs : List Int) : Prop := len ≤ 9223372036854775807 ∧ (len ≤ 2000 → Ints w A len xs)
theorem came_of_row {w : World} {a : Option Addr} {len cap : Nat} {zs : List Int}
    (h : (a = none ∧ len = 0 ∧ cap = 0 ∧ zs = []) ∨ ∃ x, a = some x ∧ len ≤ cap ∧ cap ≤ maxLen ∧ zs.length = cap ∧ (∀ i, i < zs.length → w.cell? (x.add i) = some (.int .i64 (zs.getD i 0))) ∧ ∀ n ∈ zs, (Lit.int .i64 n).wf = true) :
    Came w a len (zs.take len) := ⟨len_of_row h, fun hl => ints_of_row h (by omega)⟩
theorem Came.len {w : World} {A : Option Addr} {len : Nat} {xs : List Int} (h : Came w A len xs) : len ≤ 9223372036854775807 := h.1

theorem ints_of_cells {w : World} {a : Option Addr} {l c : Nat} {z : List Int} (h1 : l ≤ c) (h2 : z.length = c) (h3 : a = none → c = 0) (h4 : ∀ a', a = some a' → ∀ i, i < c → w.cell? (a'.add i) = some (.int .i64 (z.getD i 0))) (hl : l ≤ 100) :
    Ints w a l (z.take l) := by
  refine ⟨by rw [List.length_take]; omega, by omega, fun hp => ?_⟩
  cases a with
  | none => have := h3 rfl; omega
  | some x =>
    obtain ⟨b, off, rfl, hc⟩ := Go.ints_at (fun i hi => h4 x rfl i (by omega)) (by omega : 0 < z.length)
    refine ⟨b, off, rfl, fun j hj => ?_⟩
    rw [hc j (by omega)]
    simp [List.getD_eq_getElem?_getD, hj]
/-- A slice of slices that came in, as a law sees it. -/
def Came2 (w : World) (A : Option Addr) (n : Nat) (xss : List (List Int)) : Prop :=
  Lens w A n (xss.map List.length) ∧ (n ≤ 300 → (∀ j, (xss.getD j []).length ≤ 100) → IntsS w A n xss)
theorem came2_of {w : World} {a1 : Option Addr} {len1 cap1 : Nat} {X : Prop} {Y : Addr → Nat → Nat → (Nat → Option Addr) → (Nat → Nat) → (Nat → List Int) → Prop}
    (h : ([Value.slice a1 len1 cap1] = [.slice none 0 0] ∧ X) ∨ ∃ (a : Addr) (len cap : Nat) (A : Nat → Option Addr) (L C : Nat → Nat) (Z : Nat → List Int), [Value.slice a1 len1 cap1] = [.slice (some a) len cap] ∧ 0 ≤ a.block ∧ len ≤ cap ∧ cap ≤ maxLen ∧ Y a len cap A L Z ∧
      ∀ r, r < cap → w.cell? (a.add r) = some (.slice (A r) (L r) (C r)) ∧ L r ≤ C r ∧ C r ≤ maxLen ∧ (Z r).length = C r ∧ (∀ n ∈ Z r, (Lit.int .i64 n).wf = true) ∧ (A r = none → C r = 0) ∧
        ∀ a', A r = some a' → 0 ≤ a'.block ∧ ∀ c, c < C r → w.cell? (a'.add c) = some (.int .i64 ((Z r).getD c 0))) : ∃ xss, Came2 w a1 len1 xss := by
  rcases h with ⟨e, _⟩ | ⟨a, len, cap, A, L, C, Z, e, _, hl, hm, _, hr⟩
  · simp only [List.cons.injEq, Value.slice.injEq, and_true] at e
    obtain ⟨rfl, rfl, rfl⟩ := e
    exact ⟨[], ⟨rfl, by omega, fun h => absurd h (by omega), fun j => by simp⟩, fun _ _ => ⟨rfl, by omega, fun h => absurd h (by omega)⟩⟩
  · simp only [List.cons.injEq, Value.slice.injEq, and_true] at e
    obtain ⟨rfl, rfl, rfl⟩ := e
    have hlen : ∀ r, r < len1 → ((Z r).take (L r)).length = L r := fun r h => by
      obtain ⟨_, h1, _, h2, _⟩ := hr r (by omega)
      rw [List.length_take]; omega
    have hget : ∀ r, r < len1 → ((List.range len1).map fun r => (Z r).take (L r)).getD r [] = (Z r).take (L r) := fun r h => by
      simp [List.getD_eq_getElem?_getD, h]
    have hspot : 0 < len1 → ∃ b off, a = ⟨b, off, none⟩ := fun hp => by
      obtain ⟨b, off, spot⟩ := a
      have hs : spot = none := by simpa [Addr.add] using World.cell?_spot (hr 0 (by omega)).1
      exact ⟨b, off, by rw [hs]⟩
    refine ⟨(List.range len1).map fun r => (Z r).take (L r), ⟨by simp, by unfold maxLen at hm; omega, fun hp => ?_, fun j => ?_⟩, fun hn hsm => ⟨by simp, by omega, fun hp => ?_⟩⟩
    · obtain ⟨b, off, rfl⟩ := hspot hp
      refine ⟨b, off, rfl, fun j hj => ?_⟩
      refine ⟨A j, C j, ?_⟩
      have := (hr j (by omega)).1
      rw [Go.WideShapes.add_plain] at this
      rw [this]
      have h2 := hlen j hj
      rw [List.length_take] at h2
      simp [List.getD_eq_getElem?_getD, hj, h2]
    · by_cases hj : j < len1
      · have h2 := hlen j hj
        obtain ⟨_, h1, h3, _⟩ := hr j (by omega)
        unfold maxLen at h3
        rw [List.length_take] at h2
        simp [List.getD_eq_getElem?_getD, hj]; omega
      · simp [List.getD_eq_getElem?_getD, hj]
    · obtain ⟨b, off, rfl⟩ := hspot hp
      refine ⟨b, off, rfl, fun j hj => ⟨A j, C j, ?_, ?_⟩⟩
      · have := (hr j (by omega)).1
        rw [Go.WideShapes.add_plain] at this
        rw [this, hget j hj, hlen j hj]
      · have h9 := hsm j
        rw [hget j hj, hlen j hj] at h9 ⊢
        obtain ⟨_, h1, _, h2, _, h3, h4⟩ := hr j (by omega)
        exact ints_of_cells h1 h2 h3 (fun a' ha => (h4 a' ha).2) h9

theorem fewB_facts {ls : List Nat} {m : Nat} (h : fewB ls m = true) : ls.length ≤ 250 ∧ (∀ j, ls.getD j 0 ≤ 40) ∧ m ≤ 1100 := by
  unfold fewB at h
  simp only [Bool.and_eq_true, decide_eq_true_eq, List.all_eq_true] at h
  obtain ⟨⟨h1, h2⟩, h3⟩ := h
  refine ⟨h1, fun j => ?_, h3⟩
  by_cases hj : j < ls.length
  · have := h2 _ (List.getElem_mem hj)
    simpa [List.getD_eq_getElem?_getD, hj] using this
  · simp [List.getD_eq_getElem?_getD, hj]
theorem Came2.ints {w : World} {A : Option Addr} {n m : Nat} {xss : List (List Int)} (h : Came2 w A n xss) (hf : fewB (xss.map List.length) m = true) : IntsS w A n xss := by
  obtain ⟨h1, h2, _⟩ := fewB_facts hf
  refine h.2 (by have := h.1.1; omega) fun j => ?_
  have := h2 j
  by_cases hj : j < xss.length
  · simp [List.getD_eq_getElem?_getD, hj] at this ⊢; omega
  · simp [List.getD_eq_getElem?_getD, hj]
theorem few_rows {xss : List (List Int)} {m : Nat} (hf : fewB (xss.map List.length) m = true) (j : Nat) : (xss.getD j []).length ≤ 40 := by
  obtain ⟨_, h2, _⟩ := fewB_facts hf
  have := h2 j
  by_cases hj : j < xss.length
  · simp [List.getD_eq_getElem?_getD, hj] at this ⊢; omega
  · simp [List.getD_eq_getElem?_getD, hj]
end Go.Proofs.Ytfaenbaaadjbbaa
