/- Walks: same, few. -/
import Derived.Test.YtpehhbiodmgjeaaBase3
import Derived.Test.YtpehhbiodmgjeaaW10
namespace Go.Proofs.Ytpehhbiodmgjeaa
open Go.RowKit

theorem getD_ext {xs ys : List Int} (hl : xs.length = ys.length) (h : ∀ j, j < xs.length → xs.getD j 0 = ys.getD j 0) : xs = ys := by
  apply List.ext_getElem hl
  intro i h1 h2
  have := h i h1
  simpa [List.getD_eq_getElem?_getD, h1, h2] using this

set_option maxHeartbeats 1000000 in
/-- dibberlaw08.same -/
theorem f20_any (A B : Option Addr) (n c m d : Nat) (xs ys : List Int) (w : World) (hs : Ints w A n xs) (ho : Ints w B m ys) :
    Calls Try.prog 20 #[.slice A n c, .slice B m d] w fun e w' => e = .returned (.bool (decide (xs = ys))) ∧ ∃ k, w' = w.drewN k := by
  have hsm := hs.small
  have hsm2 := ho.small
  have hl1 := Lib.hid hs.len
  have hl2 := Lib.hid ho.len
  by_cases hnm : n = m
  · subst hnm
    have HS := Lib.hid hs
    have HO := Lib.hid ho
    clear hs ho
    go_enter Try.func20, Try.ntmps20
    go_wp2
    go_loopw [5] (fun i wr => ∃ k : Nat, k ≤ n ∧ i = .int .i64 k ∧ (∀ j, j < k → xs.getD j 0 = ys.getD j 0) ∧ ∃ q, wr = w.drewN q) (fun i _ => n - (intOf i).toNat)
    case atStart => exact ⟨0, by omega, rfl, fun j hj => absurd hj (by omega), 0, rfl⟩
    case round =>
      obtain ⟨k, hk, rfl, hbef, q, rfl⟩ := hrel
      have HB := Lib.hid hbef
      clear hbef
      by_cases hlt : k < n
      · obtain ⟨b, off, rfl, hc⟩ := (HS.out).at_ hlt
        obtain ⟨b2, off2, rfl, hc2⟩ := (HO.out).at_ hlt
        have hx : Hid (∀ u v, xs.getD k 0 = u → ys.getD k 0 = v → u ≠ v → decide (xs = ys) = false) := fun u v h1 h2 h3 => by
          apply decide_eq_false
          rintro rfl
          exact h3 (h1.symm.trans h2)
        have hx2 : Hid (∀ u v, xs.getD k 0 = u → ys.getD k 0 = v → u = v → xs.getD k 0 = ys.getD k 0) := fun u v h1 h2 h3 => by rw [h1, h2, h3]
        generalize hu : xs.getD k 0 = u at *
        generalize hv : ys.getD k 0 = v at *
        have HU := Lib.hid hu
        have HV := Lib.hid hv
        clear hu hv
        by_cases he : u = v
        · have hq : (u != v) = false := by simpa using he
          have HE := Lib.hid he
          clear he
          go_wp2
          go_quiet (fail)
          go_wp2
          go_roundw
          case rel => exact ⟨k + 1, by omega, by go_num, fun j hj => by
            rcases Nat.lt_or_ge j k with h | h
            · exact HB.out j h
            · obtain rfl : j = k := by omega
              rw [HU.out, HV.out, HE.out], by first | exact ⟨_, rfl⟩ | exact ⟨_, World.drewN_drewN _ _ _⟩⟩
          case measure => simp [intOf]; omega
        · have hq : (u != v) = true := by simpa using he
          have HF := Lib.hid (hx.out u v rfl rfl he)
          clear he
          go_wp2
          go_quiet (fail)
          go_wp2
          go_ret
          exact ⟨ret_bool HF.out.symm, by first | exact ⟨_, rfl⟩ | exact ⟨_, World.drewN_drewN _ _ _⟩⟩
      · obtain rfl : k = n := by omega
        have hfin : Hid (decide (xs = ys) = true) := decide_eq_true (getD_ext (by rw [hl1.out, hl2.out]) (fun j hj => HB.out j (by rw [hl1.out] at hj; exact hj)))
        go_wp2
        go_ret
        exact ⟨ret_bool hfin.out.symm, q, rfl⟩
  · have hq : ((n : Int) != (m : Int)) = true := by simp; omega
    have hfin : Hid (decide (xs = ys) = false) := decide_eq_false (by rintro rfl; exact hnm (hl1.out.symm.trans hl2.out))
    clear hnm
    go_enter Try.func20, Try.ntmps20
    go_wp2
    go_ret
    exact ⟨ret_bool hfin.out.symm, 0, rfl⟩

/-- A slice of slices of which the lengths are told. -/
def Lens (w : World) (A : Option Addr) (ls : List Nat) : Prop :=
  ls.length ≤ 17592186044415 ∧ (0 < ls.length → ∃ b off, A = some ⟨b, off, none⟩ ∧ ∀ j, j < ls.length → ∃ B c, w.cell? ⟨b, off + j, none⟩ = some (.slice B (ls.getD j 0) c)) ∧ ∀ j, ls.getD j 0 ≤ 9223372036854775807
def fewB (ls : List Nat) : Bool := ls.all fun l => decide (l ≤ 100)
theorem fewB_bad (ls : List Nat) (k : Nat) (hk : k < ls.length) (h : 100 < ls.getD k 0) : fewB ls = false := by
  unfold fewB
  rw [List.all_eq_false]
  refine ⟨ls[k], List.getElem_mem hk, ?_⟩
  simp [List.getD_eq_getElem?_getD, hk] at h
  simpa using h
theorem fewB_all (ls : List Nat) (h : ∀ j, j < ls.length → ls.getD j 0 ≤ 100) : fewB ls = true := by
  unfold fewB
  rw [List.all_eq_true]
  intro x hx
  obtain ⟨j, hj, rfl⟩ := List.getElem_of_mem hx
  have := h j hj
  simp [List.getD_eq_getElem?_getD, hj] at this
  simpa using this

set_option maxHeartbeats 1000000 in
/-- dibberlaw08.few -/
theorem f14_any (A : Option Addr) (c n : Nat) (ls : List Nat) (w : World) (hs : Lens w A ls) (hn : ls.length = n) :
    Calls Try.prog 14 #[.slice A n c] w fun e w' => e = .returned (.bool (fewB ls)) ∧ w = w' := by
  obtain ⟨hsm, hc, hsz⟩ := hs
  rw [hn] at hsm hc
  have HC := Lib.hid hc
  have HN := Lib.hid hn
  have HZ := Lib.hid hsz
  clear hc hn hsz
  go_enter Try.func14, Try.ntmps14
  go_wp2
  go_loop [3] (fun i => ∃ k : Nat, k ≤ n ∧ i = .int .i64 k ∧ (∀ j, j < k → ls.getD j 0 ≤ 100)) (fun i => n - (intOf i).toNat)
  case atStart => exact ⟨0, by omega, rfl, fun j hj => absurd hj (by omega)⟩
  case round =>
    obtain ⟨k, hk, rfl, hbef⟩ := hrel
    have HB := Lib.hid hbef
    clear hbef
    by_cases hlt : k < n
    · obtain ⟨b, off, rfl, hc⟩ := HC.out (by omega)
      obtain ⟨B, d, hc⟩ := hc k hlt
      have hx : Hid (100 < ls.getD k 0 → fewB ls = false) := fewB_bad ls k (by rw [HN.out]; exact hlt)
      have hz := HZ.out k
      generalize hu : ls.getD k 0 = u at *
      have HU := Lib.hid hu
      clear hu
      by_cases he : 100 < u
      · have HF := Lib.hid (hx.out he)
        go_wp2
        go_ret
        exact ⟨ret_bool HF.out.symm, rfl⟩
      · go_wp2
        go_round
        case rel => exact ⟨k + 1, by omega, by go_num, fun j hj => by
          rcases Nat.lt_or_ge j k with h | h
          · exact HB.out j h
          · obtain rfl : j = k := by omega
            rw [HU.out]; omega⟩
        case measure => simp [intOf]; omega
    · obtain rfl : k = n := by omega
      have hfin : Hid (fewB ls = true) := fewB_all ls (fun j hj => HB.out j (by rw [HN.out] at hj; exact hj))
      go_wp2
      go_ret
      exact ⟨ret_bool hfin.out.symm, rfl⟩
end Go.Proofs.Ytpehhbiodmgjeaa
