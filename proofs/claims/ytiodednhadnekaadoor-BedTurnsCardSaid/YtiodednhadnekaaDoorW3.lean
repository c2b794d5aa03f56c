/- Walks: the specification's shape; the first place at which a crop is again (the program's). -/
import Derived.Test.YtiodednhadnekaaDoorW2
namespace Go.Proofs.YtiodednhadnekaaDoor
open Go.RowKit Go.Deep
attribute [local go_sem ↓] Go.wp_at_zero Go.wp_at_succ

set_option maxRecDepth 100000 in
set_option maxHeartbeats 2000000 in
/-- dibberref01.Shaped -/
theorem f72_any (A : Option Addr) (n c : Nat) (b : List (List Int)) (w : World) (hs : Beds w A n c b) :
    Calls Tryd.prog 72 #[.slice A n c] w fun e w' => e = .returned (.bool (shapedB b)) ∧ w = w' := by
  have hl := hs.small
  have HS := Lib.hid hs
  have HL := Lib.hid hs.len
  have HF : Hid (shapedB b = (decide (1 ≤ n) && decide (n ≤ 7) && !b.any (badRow (-1) n))) := by unfold shapedB; rw [hs.len]; rfl
  clear hs
  by_cases h1 : n < 1
  · have HF2 : Hid (shapedB b = false) := by rw [HF.out, decide_eq_false (by omega : ¬ 1 ≤ n)]; rfl
    go_enter Tryd.func72, Tryd.ntmps72
    go_wp2
    go_ret
    exact ⟨ret_bool HF2.out.symm, rfl⟩
  · by_cases h2 : 7 < n
    · have HF2 : Hid (shapedB b = false) := by rw [HF.out, decide_eq_false (by omega : ¬ n ≤ 7), Bool.and_false]; rfl
      go_enter Tryd.func72, Tryd.ntmps72
      go_wp2
      go_ret
      exact ⟨ret_bool HF2.out.symm, rfl⟩
    · have HF2 : Hid (shapedB b = !b.any (badRow (-1) n)) := by rw [HF.out, decide_eq_true (by omega : 1 ≤ n), decide_eq_true (by omega : n ≤ 7)]; rfl
      have HBAD : Hid (∀ r, r < n → badRow (-1) n (b.getD r []) = true → shapedB b = false) := fun r hr h => by rw [HF2.out, anyBad_true (by rw [HL.out]; exact hr) h]; rfl
      have HGOOD : Hid ((∀ r, r < n → badRow (-1) n (b.getD r []) = false) → shapedB b = true) := fun h => by rw [HF2.out, anyBad_false.2 (fun r hr => h r (by rw [HL.out] at hr; exact hr))]; rfl
      go_enter Tryd.func72, Tryd.ntmps72
      go_wp2
      go_loop [4] (fun i => ∃ r : Nat, r ≤ n ∧ i = .int .i64 (r : Int) ∧ Hid (∀ j, j < r → badRow (-1) n (b.getD j []) = false)) (fun i => n - (intOf i).toNat)
      case atStart => exact ⟨0, by omega, rfl, fun j hj => absurd hj (by omega)⟩
      case round => as_aux_lemma =>
        obtain ⟨r, hr, rfl, hin⟩ := hrel
        by_cases hlr : r < n
        · obtain ⟨g, o, rfl, B, d, hc, _, _, hi⟩ := HS.out.at_ hlr
          have HB := Lib.hid (HBAD.out r hlr)
          have HN : Hid (badRow (-1) n (b.getD r []) = false → ∀ j, j < r + 1 → badRow (-1) n (b.getD j []) = false) := fun h j hj => by
            rcases Nat.lt_or_ge j r with h1 | h1
            · exact hin.out j h1
            · obtain rfl : j = r := by omega
              exact h
          have hsm := hi.small
          generalize b.getD r [] = l at *
          clear hin
          by_cases hll : l.length = n
          · rw [hll] at hc hi
            have HI := Lib.hid hi
            have HOUT : Hid (∀ j, j < n → outB (-1) n (l.getD j 0) = true → shapedB b = false) := fun j hj h => HB.out (badRow_out (by rw [hll]; exact hj) h)
            have HIN : Hid ((∀ j, j < n → outB (-1) n (l.getD j 0) = false) → badRow (-1) n l = false) := fun h => badRow_false.2 ⟨hll, fun j hj => by
              have := h j hj
              unfold outB at this
              simp only [Bool.or_eq_false_iff, decide_eq_false_iff_not] at this
              omega⟩
            have hq : ((n : Int) != (n : Int)) = false := by simp
            have r0 : (0 : Int) ≤ (r : Int) := by omega
            have rn : (r : Int) < (n : Int) := by omega
            clear hi hll HB
            go_wp2
            go_loop [5] (fun i => ∃ k : Nat, k ≤ n ∧ i = .int .i64 (k : Int) ∧ Hid (∀ j, j < k → outB (-1) n (l.getD j 0) = false)) (fun i => n - (intOf i).toNat)
            case atStart => exact ⟨0, by omega, rfl, fun j hj => absurd hj (by omega)⟩
            case round => as_aux_lemma =>
              obtain ⟨k, hk, rfl, hin⟩ := hrel
              by_cases hlk : k < n
              · obtain ⟨g2, o2, rfl, hc2⟩ := HI.out.at_ hlk
                have HO := Lib.hid (HOUT.out k hlk)
                have HN2 : Hid (outB (-1) n (l.getD k 0) = false → ∀ j, j < k + 1 → outB (-1) n (l.getD j 0) = false) := fun h j hj => by
                  rcases Nat.lt_or_ge j k with h1 | h1
                  · exact hin.out j h1
                  · obtain rfl : j = k := by omega
                    exact h
                generalize l.getD k 0 = x at *
                clear hin
                by_cases c1 : x < -1
                · have HQ : Hid (shapedB b = false) := HO.out (by unfold outB; rw [decide_eq_true c1, Bool.true_or])
                  go_wp2
                  go_ret
                  exact ⟨ret_bool HQ.out.symm, rfl⟩
                · by_cases c2 : (n : Int) ≤ x
                  · have HQ : Hid (shapedB b = false) := HO.out (by unfold outB; rw [decide_eq_true c2, Bool.or_true])
                    go_wp2
                    go_ret
                    exact ⟨ret_bool HQ.out.symm, rfl⟩
                  · have HQ := Lib.hid (HN2.out (by unfold outB; rw [decide_eq_false c1, decide_eq_false c2]; rfl))
                    go_wp2
                    go_round
                    case rel => exact ⟨k + 1, by omega, by go_num, HQ.out⟩
                    case measure => simp [intOf]; omega
              · obtain rfl : k = n := by omega
                have HQ := Lib.hid (HN.out (HIN.out hin.out))
                go_wp2
                go_round
                case rel => exact ⟨r + 1, by omega, by go_num, HQ.out⟩
                case measure => simp [intOf]; omega
          · have hq : ((l.length : Int) != (n : Int)) = true := by simp; omega
            have HQ := Lib.hid (HB.out (badRow_len hll))
            generalize l.length = m at *
            clear hi hll
            go_wp2
            go_ret
            exact ⟨ret_bool HQ.out.symm, rfl⟩
        · obtain rfl : r = n := by omega
          have HQ := Lib.hid (HGOOD.out hin.out)
          go_wp2
          go_ret
          exact ⟨ret_bool HQ.out.symm, rfl⟩
set_option maxHeartbeats 400000 in
/-- bed.clash$1 -/
theorem f100_any (B : Option Addr) (l : List Int) (d : Nat) (a1 a2 : Addr) (c : Nat) (x : Int) (w : World) (hi : Ints w B l.length l) (h1 : w.cell? a1 = some (.int .i64 (c : Int))) (h2 : w.cell? a2 = some (.int .i64 x)) (hc : c < l.length) :
    Calls Tryd.prog 100 #[.slice B l.length d, .pointer (some a1), .pointer (some a2)] w fun e w' => e = .returned (.bool (l.getD c 0 == x)) ∧ ∃ q, w' = w.drewN q := by
  obtain ⟨g, o, rfl, hcell⟩ := hi.at_ hc
  have hl := hi.small
  clear hi
  generalize l.getD c 0 = y at *
  generalize l.length = m at *
  have c0 : (0 : Int) ≤ (c : Int) := by omega
  have c1 : (c : Int) < (m : Int) := by omega
  go_enter Tryd.func100, Tryd.ntmps100
  go_wp2
  go_quiet (fail)
  go_wp2
  go_ret
  exact ⟨rfl, _, rfl⟩
theorem enter100 (args : Array Value) (w : World) : (callFunc 100 args).run Tryd.prog w = .ok (.enter 100 args) w := by simp [go_sem]
theorem two_vars (w : World) (x y : Int) : ∃ w2, w2 = (w.alloc (.cells #[.int .i64 x] 3)).alloc (.cells #[.int .i64 y] 3) ∧ Below w.heap.size w w2 ∧ w2.cell? ⟨w.heap.size, 0, none⟩ = some (.int .i64 x) ∧ w2.cell? ⟨w.heap.size + 1, 0, none⟩ = some (.int .i64 y) := by
  refine ⟨_, rfl, below_alloc2 _ _ _, ?_, ?_⟩
  · have h := ((bcell (below_alloc (w.alloc (.cells #[.int .i64 x] 3)) (.cells #[.int .i64 y] 3))).1 w.heap.size 0 (by simp)).trans (cell_new w #[.int .i64 x] 3 0)
    rw [h]; rfl
  · have h := cell_new (w.alloc (.cells #[.int .i64 x] 3)) #[.int .i64 y] 3 0
    have e : (w.alloc (.cells #[.int .i64 x] 3)).heap.size = w.heap.size + 1 := by simp
    rw [e] at h
    rw [h]; rfl
set_option maxRecDepth 100000 in
set_option maxHeartbeats 4000000 in
/-- bed.clash -/
theorem f71_any (A : Option Addr) (N c n : Nat) (b : List (List Int)) (w : World) (hs : Beds w A N c b) (hrow : ∀ i, i < N → (b.getD i []).length = n) (hn : n ≤ 1000) :
    Calls Tryd.prog 71 #[.slice A N c] w fun e w' => e = .returned (.tuple #[.int .i64 (clR b), .int .i64 (clC b), .bool (clB b)]) ∧ Below w.heap.size w w' := by
  have hl := hs.small
  have HS := Lib.hid hs
  have HL := Lib.hid hs.len
  have hcap := hs.cap
  have HROW := Lib.hid hrow
  have HHIT : Hid (∀ r k, r < N → k < n → clashAt b r k = true → (∀ i j, i < r → j < n → clashAt b i j = false) → (∀ j, j < k → clashAt b r j = false) → clR b = r ∧ clC b = k ∧ clB b = true) := fun r k hr hk h1 h2 h3 =>
    cl_some (clash_some (by rw [HL.out]; exact hr) (by rw [HROW.out r hr]; exact hk) h1 (fun i j hi hj => h2 i j hi (by rw [HROW.out i (by omega)] at hj; exact hj)) h3)
  have HMISS : Hid ((∀ i j, i < N → j < n → clashAt b i j = false) → clR b = 0 ∧ clC b = 0 ∧ clB b = false) := fun h => cl_none (clash_none.2 fun r k hr hk => h r k (by rw [HL.out] at hr; exact hr) (by rw [HROW.out r (by rw [HL.out] at hr; exact hr)] at hk; exact hk))
  clear hs hrow
  go_enter Tryd.func71, Tryd.ntmps71
  go_wp2
  go_loopw [12] (fun i wr => ∃ r : Nat, r ≤ N ∧ i = .int .i64 (r : Int) ∧ Hid (∀ i j, i < r → j < n → clashAt b i j = false) ∧ Below w.heap.size w wr) (fun i _ => N - (intOf i).toNat)
  case atStart => exact ⟨0, by omega, rfl, fun i j hi => absurd hi (by omega), Below.refl _ _⟩
  case round => as_aux_lemma =>
    obtain ⟨r, hr, rfl, hin, hbel⟩ := hrel
    by_cases hlr : r < N
    · obtain ⟨g, o, rfl, B, d, hc, hld, _, hi⟩ := (HS.out.below hbel).at_ hlr
      have HB := Lib.hid hbel
      rw [HROW.out r hlr] at hc hi hld
      have HI := Lib.hid hi
      have HIN := Lib.hid hin.out
      have r0 : (0 : Int) ≤ (r : Int) := by omega
      have rn : (r : Int) < (N : Int) := by omega
      have HATC : Hid (∀ j, clashAt b r j = (decide (0 ≤ (b.getD r []).getD j 0) && (aboveB b r j ((b.getD r []).getD j 0) || hasB ((b.getD r []).getD j 0) ((b.getD r []).take j)))) := fun _ => rfl
      generalize b.getD r [] = l at *
      clear hi hbel hin
      obtain ⟨wq, rfl⟩ : ∃ wq : World, wq = wr := ⟨_, rfl⟩
      go_wp2
      go_loopw [19] (fun i wr => ∃ k : Nat, k ≤ n ∧ i = .int .i64 (k : Int) ∧ Hid (∀ j, j < k → clashAt b r j = false) ∧ Below wq.heap.size wq wr) (fun i _ => n - (intOf i).toNat)
      case atStart => exact ⟨0, by omega, rfl, fun j hj => absurd hj (by omega), Below.refl _ _⟩
      case round => as_aux_lemma =>
        obtain ⟨k, hk, rfl, hin, hbel⟩ := hrel
        have HB2 := Lib.hid hbel
        have HBB := Lib.hid (below_step HB.out hbel)
        clear hbel
        by_cases hlk : k < n
        · obtain ⟨g2, o2, rfl, hc2⟩ := (HI.out.below HB2.out).at_ hlk
          have HAT := Lib.hid (HATC.out k)
          have HIN2 := Lib.hid hin.out
          have HN : Hid (clashAt b r k = false → ∀ j, j < k + 1 → clashAt b r j = false) := fun h j hj => by
            rcases Nat.lt_or_ge j k with h1 | h1
            · exact HIN2.out j h1
            · obtain rfl : j = k := by omega
              exact h
          obtain ⟨x, hx⟩ : ∃ x, x = l.getD k 0 := ⟨_, rfl⟩
          rw [← hx] at HAT hc2
          clear hin hx
          obtain ⟨w2, hw2, hb2, q7, q8⟩ := two_vars wr (k : Int) x
          have HB3 := Lib.hid (below_step HB2.out hb2)
          have HB4 := Lib.hid (below_step HBB.out hb2)
          have k0 : (0 : Int) ≤ (k : Int) := by omega
          have kn : (k : Int) < (n : Int) := by omega
          by_cases hx0 : x < 0
          · have HQ := Lib.hid (HN.out (by rw [HAT.out, decide_eq_false (by omega)]; rfl))
            have HB5 : Hid (Below wq.heap.size wq ((wr.alloc (.cells #[.int .i64 (k : Int)] 3)).alloc (.cells #[.int .i64 x] 3))) := by rw [← hw2]; exact HB3.out
            clear hb2 q7 q8 hw2
            go_wp2
            go_roundw
            case rel => exact ⟨k + 1, by omega, by go_num, HQ.out, HB5.out⟩
            case measure => simp [intOf]; omega
          · have hx1 : 0 ≤ x := by omega
            have K91 := Lib.hid (f91_any (some ⟨g, o, none⟩) r c (b.take r) 100 #[.pointer (some ⟨wr.heap.size, 0, none⟩), .pointer (some ⟨wr.heap.size + 1, 0, none⟩)] (fun o => o.getD k 0 == x) w2 ((HS.out.below HB4.out).take (by omega)) enter100 (fun j hj B d y hi => f100_any B _ d _ _ k x (w2.drewN y) (hi.drewN y) q7 q8 (by
              have e : (b.take r).getD j [] = b.getD j [] := by simp [List.getD_eq_getElem?_getD, hj]
              rw [e, HROW.out j (by omega)]; exact hlk) |>.mono fun e w' h => ⟨h.1, by obtain ⟨q, rfl⟩ := h.2; exact ⟨_, World.drewN_drewN _ _ _⟩⟩))
            have K93 : Hid (∀ y, Calls Tryd.prog 93 #[.slice (some ⟨g2, o2, none⟩) k d, .int .i64 x] (w2.drewN y) fun e w' => e = .returned (.bool (hasB x (l.take k))) ∧ w2.drewN y = w') := fun y => f93_any (some ⟨g2, o2, none⟩) k d (l.take k) x (w2.drewN y) (((HI.out.below HB3.out).take (by omega)).drewN y)
            have e1 : (b.take r).any (fun o => o.getD k 0 == x) = aboveB b r k x := rfl
            rw [e1] at K91
            have HAT2 : Hid (clashAt b r k = (aboveB b r k x || hasB x (l.take k))) := by rw [HAT.out, decide_eq_true hx1, Bool.true_and]; rfl
            have HHIT := Lib.hid (HHIT.out r k hlr hlk)
            clear e1 hb2
            generalize aboveB b r k x = ab at *
            generalize hasB x (l.take k) = hb at *
            have hck : (k : Int) ≤ (d : Int) := by omega
            have hrc : (r : Int) ≤ (c : Int) := by omega
            go_wp2_with fail
            rw [← hw2]
            clear hw2
            refine K91.out.mono ?_
            rintro e w' ⟨rfl, y, rfl⟩
            have HB5 : Hid (Below wq.heap.size wq (w2.drewN y)) := below_drewN HB3.out y
            have HB6 : Hid (∀ z, Below w.heap.size w (w2.drewN z)) := fun z => below_drewN HB4.out z
            have p7 : (w2.drewN y).cell? ⟨wr.heap.size, 0, none⟩ = some (.int .i64 (k : Int)) := q7
            have p8 : (w2.drewN y).cell? ⟨wr.heap.size + 1, 0, none⟩ = some (.int .i64 x) := q8
            cases ab
            · have R6 : Hid (∀ z, (w2.drewN z).cell? ⟨wr.heap.size, 0, none⟩ = some (.int .i64 (k : Int)) ∧ (w2.drewN z).cell? ⟨wr.heap.size + 1, 0, none⟩ = some (.int .i64 x)) := fun z => ⟨q7, q8⟩
              cases hb
              · have HQ := Lib.hid (HN.out (by rw [HAT2.out]; rfl))
                go_wp2_with fail
                go_region_held3 (fun w' => w'.cell? ⟨wr.heap.size, 0, none⟩ = some (.int .i64 (k : Int)) ∧ w'.cell? ⟨wr.heap.size + 1, 0, none⟩ = some (.int .i64 x))
                  (first | go_keep | exact R6.out _)
                  ((go_at_call 93; refine (K93.out _).mono ?_; rintro e w8 ⟨rfl, rfl⟩))
                all_goals
                  go_wp2
                  go_roundw
                  case rel => exact ⟨k + 1, by omega, by go_num, HQ.out, by first | exact below_drewN HB3.out _ | (simp only [World.drewN_drewN]; exact below_drewN HB3.out _)⟩
                  case measure => simp [intOf]; omega
              · obtain ⟨t1, t2, t3⟩ := HHIT.out (by rw [HAT2.out]; rfl) HIN.out HIN2.out
                have HT := Lib.hid t1
                have HT2 := Lib.hid t2
                have HT3 := Lib.hid t3
                clear t1 t2 t3
                go_wp2_with fail
                go_region_held3 (fun w' => w'.cell? ⟨wr.heap.size, 0, none⟩ = some (.int .i64 (k : Int)) ∧ w'.cell? ⟨wr.heap.size + 1, 0, none⟩ = some (.int .i64 x))
                  (first | go_keep | exact R6.out _)
                  ((go_at_call 93; refine (K93.out _).mono ?_; rintro e w8 ⟨rfl, rfl⟩))
                all_goals
                  go_wp2
                  go_quiet (fail)
                  go_wp2
                  go_ret3
                  exact ⟨by rw [HT.out, HT2.out, HT3.out]; rfl, by first | exact HB6.out _ | (simp only [World.drewN_drewN]; exact HB6.out _)⟩
            · obtain ⟨t1, t2, t3⟩ := HHIT.out (by rw [HAT2.out]; rfl) HIN.out HIN2.out
              have HT := Lib.hid t1
              have HT2 := Lib.hid t2
              have HT3 := Lib.hid t3
              clear t1 t2 t3
              go_wp2_with fail
              go_quiet (fail)
              go_wp2
              go_quiet (fail)
              go_wp2
              go_ret3
              exact ⟨by rw [HT.out, HT2.out, HT3.out]; rfl, by first | exact HB6.out _ | (simp only [World.drewN_drewN]; exact HB6.out _)⟩
        · obtain rfl : k = n := by omega
          have HQ : Hid (∀ i j, i < r + 1 → j < k → clashAt b i j = false) := fun i j hi hj => by
            rcases Nat.lt_or_ge i r with h1 | h1
            · exact HIN.out i j h1 hj
            · obtain rfl : i = r := by omega
              exact hin.out j hj
          clear hin
          go_wp2
          go_roundw
          case rel => exact ⟨r + 1, by omega, by go_num, HQ.out, HBB.out⟩
          case measure => simp [intOf]; omega
    · obtain rfl : r = N := by omega
      obtain ⟨t1, t2, t3⟩ := HMISS.out hin.out
      have HT := Lib.hid t1
      have HT2 := Lib.hid t2
      have HT3 := Lib.hid t3
      have HB := Lib.hid hbel
      clear t1 t2 t3 hin hbel
      go_wp2
      go_ret3
      exact ⟨by rw [HT.out, HT2.out, HT3.out]; rfl, HB.out⟩
end Go.Proofs.YtiodednhadnekaaDoor
