/- Walks: few, same, beds. -/
import Derived.Test.YtiodednhadnekaaDoorBase2
import Derived.StillTailTactics
namespace Go.Proofs.YtiodednhadnekaaDoor
open Go.RowKit Go.Deep
attribute [local go_sem ↓] Go.wp_at_zero Go.wp_at_succ

theorem getD_ext {xs ys : List Int} (hl : xs.length = ys.length) (h : ∀ j, j < xs.length → xs.getD j 0 = ys.getD j 0) : xs = ys := by
  apply List.ext_getElem hl
  intro i h1 h2
  have := h i h1
  simpa [List.getD_eq_getElem?_getD, h1, h2] using this

set_option maxHeartbeats 1000000 in
/-- dibberlaw01.same -/
theorem f29_any (A B : Option Addr) (n c m d : Nat) (xs ys : List Int) (w : World) (hs : Ints w A n xs) (ho : Ints w B m ys) :
    Calls Tryd.prog 29 #[.slice A n c, .slice B m d] w fun e w' => e = .returned (.bool (decide (xs = ys))) ∧ ∃ k, w' = w.drewN k := by
  have hsm := hs.small
  have hsm2 := ho.small
  have hl1 := Lib.hid hs.len
  have hl2 := Lib.hid ho.len
  by_cases hnm : n = m
  · subst hnm
    have HS := Lib.hid hs
    have HO := Lib.hid ho
    clear hs ho
    go_enter Tryd.func29, Tryd.ntmps29
    go_wp2
    go_loopw [5] (fun i wr => ∃ k : Nat, k ≤ n ∧ i = .int .i64 k ∧ (∀ j, j < k → xs.getD j 0 = ys.getD j 0) ∧ ∃ q, wr = w.drewN q) (fun i _ => n - (intOf i).toNat)
    case atStart => exact ⟨0, by omega, rfl, fun j hj => absurd hj (by omega), 0, rfl⟩
    case round =>
      obtain ⟨k, hk, rfl, hbef, q, rfl⟩ := hrel
      have HB := Lib.hid hbef
      clear hbef
      by_cases hlt : k < n
      · obtain ⟨b, off, rfl, hc⟩ := (HS.out).at_ hlt
        obtain ⟨b2, off2, rfl, hc2⟩ := (HO.out).at_ hlt
        have hx : Hid (∀ u v, xs.getD k 0 = u → ys.getD k 0 = v → u ≠ v → decide (xs = ys) = false) := fun u v h1 h2 h3 => by
          apply decide_eq_false
          rintro rfl
          exact h3 (h1.symm.trans h2)
        have hx2 : Hid (∀ u v, xs.getD k 0 = u → ys.getD k 0 = v → u = v → xs.getD k 0 = ys.getD k 0) := fun u v h1 h2 h3 => by rw [h1, h2, h3]
        generalize hu : xs.getD k 0 = u at *
        generalize hv : ys.getD k 0 = v at *
        have HU := Lib.hid hu
        have HV := Lib.hid hv
        clear hu hv
        by_cases he : u = v
        · have hq : (u != v) = false := by simpa using he
          have HE := Lib.hid he
          clear he
          go_wp2
          go_quiet (fail)
          go_wp2
          go_roundw
          case rel => exact ⟨k + 1, by omega, by go_num, fun j hj => by
            rcases Nat.lt_or_ge j k with h | h
            · exact HB.out j h
            · obtain rfl : j = k := by omega
              rw [HU.out, HV.out, HE.out], by first | exact ⟨_, rfl⟩ | exact ⟨_, World.drewN_drewN _ _ _⟩⟩
          case measure => simp [intOf]; omega
        · have hq : (u != v) = true := by simpa using he
          have HF := Lib.hid (hx.out u v rfl rfl he)
          clear he
          go_wp2
          go_quiet (fail)
          go_wp2
          go_ret
          exact ⟨ret_bool HF.out.symm, by first | exact ⟨_, rfl⟩ | exact ⟨_, World.drewN_drewN _ _ _⟩⟩
      · obtain rfl : k = n := by omega
        have hfin : Hid (decide (xs = ys) = true) := decide_eq_true (getD_ext (by rw [hl1.out, hl2.out]) (fun j hj => HB.out j (by rw [hl1.out] at hj; exact hj)))
        go_wp2
        go_ret
        exact ⟨ret_bool hfin.out.symm, q, rfl⟩
  · have hq : ((n : Int) != (m : Int)) = true := by simp; omega
    have hfin : Hid (decide (xs = ys) = false) := decide_eq_false (by rintro rfl; exact hnm (hl1.out.symm.trans hl2.out))
    clear hnm
    go_enter Tryd.func29, Tryd.ntmps29
    go_wp2
    go_ret
    exact ⟨ret_bool hfin.out.symm, 0, rfl⟩


def fewB (ls : List Nat) : Bool := decide (ls.length ≤ 20) && ls.all (fun l => decide (l ≤ 20))
theorem fewB_bad (ls : List Nat) (k : Nat) (hk : k < ls.length) (h : 20 < ls.getD k 0) : fewB ls = false := by
  unfold fewB
  have : ls.all (fun l => decide (l ≤ 20)) = false := by
    rw [List.all_eq_false]
    refine ⟨ls[k], List.getElem_mem hk, ?_⟩
    simp [List.getD_eq_getElem?_getD, hk] at h
    simpa using h
  rw [this, Bool.and_false]
theorem fewB_long (ls : List Nat) (h : 20 < ls.length) : fewB ls = false := by
  unfold fewB
  rw [decide_eq_false (by omega), Bool.false_and]
theorem fewB_all (ls : List Nat) (h0 : ls.length ≤ 20) (h : ∀ j, j < ls.length → ls.getD j 0 ≤ 20) : fewB ls = true := by
  unfold fewB
  have : ls.all (fun l => decide (l ≤ 20)) = true := by
    rw [List.all_eq_true]
    intro x hx
    obtain ⟨j, hj, rfl⟩ := List.getElem_of_mem hx
    have := h j hj
    simp [List.getD_eq_getElem?_getD, hj] at this
    simpa using this
  rw [this, decide_eq_true h0, Bool.true_and]
theorem fewB_facts {ls : List Nat} (h : fewB ls = true) : ls.length ≤ 20 ∧ ∀ j, ls.getD j 0 ≤ 20 := by
  unfold fewB at h
  simp only [Bool.and_eq_true, decide_eq_true_eq, List.all_eq_true] at h
  obtain ⟨h1, h2⟩ := h
  refine ⟨h1, fun j => ?_⟩
  by_cases hj : j < ls.length
  · have := h2 _ (List.getElem_mem hj)
    simpa [List.getD_eq_getElem?_getD, hj] using this
  · simp [List.getD_eq_getElem?_getD, hj]
theorem CameB.beds {w : World} {A : Option Addr} {n c : Nat} {b : List (List Int)} (h : CameB w A n c b) (hf : fewB (b.map List.length) = true) : Beds w A n c b := by
  obtain ⟨h1, h2⟩ := fewB_facts hf
  refine h.2 (by have := h.1.1; omega) fun j => ?_
  have := h2 j
  by_cases hj : j < b.length
  · simp [List.getD_eq_getElem?_getD, hj] at this ⊢; omega
  · simp [List.getD_eq_getElem?_getD, hj]
theorem few_rows {b : List (List Int)} (hf : fewB (b.map List.length) = true) (j : Nat) : (b.getD j []).length ≤ 20 := by
  obtain ⟨_, h2⟩ := fewB_facts hf
  have := h2 j
  by_cases hj : j < b.length
  · simp [List.getD_eq_getElem?_getD, hj] at this ⊢; omega
  · simp [List.getD_eq_getElem?_getD, hj]
set_option maxRecDepth 100000 in
set_option maxHeartbeats 1000000 in
/-- dibberlaw01.few -/
theorem f16_any (A : Option Addr) (c n : Nat) (ls : List Nat) (w : World) (hs : Lens w A n ls) :
    Calls Tryd.prog 16 #[.slice A n c] w fun e w' => e = .returned (.bool (fewB ls)) ∧ w = w' := by
  obtain ⟨hn, hsm, hc, hsz⟩ := hs
  have HC := Lib.hid hc
  have HN := Lib.hid hn
  have HZ := Lib.hid hsz
  clear hc hn hsz
  go_enter Tryd.func16, Tryd.ntmps16
  go_wp2
  go_loop [3] (fun i => ∃ k : Nat, k ≤ n ∧ k ≤ 20 ∧ i = .int .i64 k ∧ (∀ j, j < k → ls.getD j 0 ≤ 20)) (fun i => n - (intOf i).toNat)
  case atStart => exact ⟨0, by omega, by omega, rfl, fun j hj => absurd hj (by omega)⟩
  case round =>
    obtain ⟨k, hk, hk2, rfl, hbef⟩ := hrel
    have HB := Lib.hid hbef
    clear hbef
    by_cases hlt : k < n
    · by_cases h250 : 20 ≤ k
      · have HF := Lib.hid (fewB_long ls (by rw [HN.out]; omega))
        go_wp2
        go_ret
        exact ⟨ret_bool HF.out.symm, rfl⟩
      obtain ⟨b, off, rfl, hc⟩ := HC.out (by omega)
      obtain ⟨C, e, hc⟩ := hc k hlt
      have hx : Hid (20 < ls.getD k 0 → fewB ls = false) := fewB_bad ls k (by rw [HN.out]; exact hlt)
      have hz := HZ.out k
      generalize hu : ls.getD k 0 = u at *
      have HU := Lib.hid hu
      clear hu
      by_cases he : 20 < u
      · have HF := Lib.hid (hx.out he)
        go_wp2
        go_ret
        exact ⟨ret_bool HF.out.symm, rfl⟩
      · go_wp2
        go_round
        case rel => exact ⟨k + 1, by omega, by omega, by go_num, fun j hj => by
          rcases Nat.lt_or_ge j k with h | h
          · exact HB.out j h
          · obtain rfl : j = k := by omega
            rw [HU.out]; omega⟩
        case measure => simp [intOf]; omega
    · obtain rfl : k = n := by omega
      have HF := Lib.hid (fewB_all ls (by rw [HN.out]; exact hk2) (by rw [HN.out]; exact HB.out))
      go_wp2
      go_ret
      exact ⟨ret_bool HF.out.symm, rfl⟩
theorem getD_ext2 {xs ys : List (List Int)} (hl : xs.length = ys.length) (h : ∀ j, j < xs.length → xs.getD j [] = ys.getD j []) : xs = ys := by
  apply List.ext_getElem hl
  intro i h1 h2
  have := h i h1
  simpa [List.getD_eq_getElem?_getD, h1, h2] using this
set_option maxRecDepth 100000 in
set_option maxHeartbeats 2000000 in
/-- dibberlaw01.beds -/
theorem f20_any (A B : Option Addr) (n c m d : Nat) (xs ys : List (List Int)) (w : World) (hs : Beds w A n c xs) (ho : Beds w B m d ys) :
    Calls Tryd.prog 20 #[.slice A n c, .slice B m d] w fun e w' => e = .returned (.bool (decide (xs = ys))) ∧ ∃ k, w' = w.drewN k := by
  have hsm := hs.small
  have hsm2 := ho.small
  have hl1 := Lib.hid hs.len
  have hl2 := Lib.hid ho.len
  by_cases hnm : n = m
  · subst hnm
    have HS := Lib.hid hs
    have HO := Lib.hid ho
    clear hs ho
    go_enter Tryd.func20, Tryd.ntmps20
    go_wp2
    go_loopw [5] (fun i wr => ∃ k : Nat, k ≤ n ∧ i = .int .i64 k ∧ (∀ j, j < k → xs.getD j [] = ys.getD j []) ∧ ∃ q, wr = w.drewN q) (fun i _ => n - (intOf i).toNat)
    case atStart => exact ⟨0, by omega, rfl, fun j hj => absurd hj (by omega), 0, rfl⟩
    case round => as_aux_lemma =>
      obtain ⟨k, hk, rfl, hbef, q, rfl⟩ := hrel
      have HB := Lib.hid hbef
      clear hbef
      by_cases hlt : k < n
      · obtain ⟨b, off, rfl, B1, d1, hc, _, _, hi⟩ := (HS.out).at_ hlt
        obtain ⟨b2, off2, rfl, B2, d2, hc2, _, _, hi2⟩ := (HO.out).at_ hlt
        have K29 : Hid (∀ W : World, W.heap = w.heap → Calls Tryd.prog 29 #[.slice B1 (xs.getD k []).length d1, .slice B2 (ys.getD k []).length d2] W fun e w' => e = .returned (.bool (decide (xs.getD k [] = ys.getD k []))) ∧ ∃ q, w' = W.drewN q) := fun W h => by
          have e : ∀ p v, w.cell? p = some v → W.cell? p = some v := fun p v hc => by unfold World.cell? at hc ⊢; rw [h]; exact hc
          exact f29_any _ _ _ _ _ _ _ _ W ⟨hi.1, hi.2.1, fun hp => by obtain ⟨g, o, e1, e2⟩ := hi.2.2 hp; exact ⟨g, o, e1, fun j hj => e _ _ (e2 j hj)⟩⟩ ⟨hi2.1, hi2.2.1, fun hp => by obtain ⟨g, o, e1, e2⟩ := hi2.2.2 hp; exact ⟨g, o, e1, fun j hj => e _ _ (e2 j hj)⟩⟩
        have R6 : Hid (∀ W : World, W.heap = w.heap → W.cell? ⟨b, off + k, none⟩ = some (.slice B1 (xs.getD k []).length d1) ∧ W.cell? ⟨b2, off2 + k, none⟩ = some (.slice B2 (ys.getD k []).length d2)) := fun W h => ⟨by unfold World.cell? at hc ⊢; rw [h]; exact hc, by unfold World.cell? at hc2 ⊢; rw [h]; exact hc2⟩
        have hx : Hid (xs.getD k [] ≠ ys.getD k [] → decide (xs = ys) = false) := fun h3 => by
          apply decide_eq_false
          rintro rfl
          exact h3 rfl
        have hi3 := hi.small
        have hi4 := hi2.small
        clear hi hi2
        generalize hu : xs.getD k [] = u at *
        generalize hv : ys.getD k [] = v at *
        have HU := Lib.hid hu
        have HV := Lib.hid hv
        clear hu hv
        have k0 : (0 : Int) ≤ (k : Int) := by omega
        have kn : (k : Int) < (n : Int) := by omega
        obtain ⟨bb, hbb⟩ : ∃ bb, bb = decide (u = v) := ⟨_, rfl⟩
        rw [← hbb] at K29
        generalize u.length = lu at *
        generalize v.length = lv at *
        have HBB := Lib.hid hbb
        clear hbb
        cases bb
        · have HF := Lib.hid (hx.out (of_decide_eq_false HBB.out.symm))
          go_wp2_with fail
          go_region_held3 (fun w' => w'.cell? ⟨b, off + k, none⟩ = some (.slice B1 lu d1) ∧ w'.cell? ⟨b2, off2 + k, none⟩ = some (.slice B2 lv d2))
            (first | go_keep | exact R6.out _ (by rfl))
            ((go_at_call 29; refine (K29.out _ (by rfl)).mono ?_; rintro e w8 ⟨rfl, dd, rfl⟩))
          all_goals
            go_wp2
            go_ret
            exact ⟨ret_bool HF.out.symm, by first | exact ⟨_, rfl⟩ | exact ⟨_, World.drewN_drewN _ _ _⟩⟩
        · have HE := Lib.hid (of_decide_eq_true HBB.out.symm)
          go_wp2_with fail
          go_region_held3 (fun w' => w'.cell? ⟨b, off + k, none⟩ = some (.slice B1 lu d1) ∧ w'.cell? ⟨b2, off2 + k, none⟩ = some (.slice B2 lv d2))
            (first | go_keep | exact R6.out _ (by rfl))
            ((go_at_call 29; refine (K29.out _ (by rfl)).mono ?_; rintro e w8 ⟨rfl, dd, rfl⟩))
          all_goals
            go_wp2
            go_roundw
            case rel => exact ⟨k + 1, by omega, by go_num, fun j hj => by
              rcases Nat.lt_or_ge j k with h | h
              · exact HB.out j h
              · obtain rfl : j = k := by omega
                rw [HU.out, HV.out, HE.out], by first | exact ⟨_, rfl⟩ | exact ⟨_, World.drewN_drewN _ _ _⟩⟩
            case measure => simp [intOf]; omega
      · obtain rfl : k = n := by omega
        have hfin : Hid (decide (xs = ys) = true) := decide_eq_true (getD_ext2 (by rw [hl1.out, hl2.out]) (fun j hj => HB.out j (by rw [hl1.out] at hj; exact hj)))
        go_wp2
        go_ret
        exact ⟨ret_bool hfin.out.symm, q, rfl⟩
  · have hq : ((n : Int) != (m : Int)) = true := by simp; omega
    have hfin : Hid (decide (xs = ys) = false) := decide_eq_false (by rintro rfl; exact hnm (hl1.out.symm.trans hl2.out))
    clear hnm hs ho
    go_enter Tryd.func20, Tryd.ntmps20
    go_wp2
    go_ret
    exact ⟨ret_bool hfin.out.symm, 0, rfl⟩
end Go.Proofs.YtiodednhadnekaaDoor
