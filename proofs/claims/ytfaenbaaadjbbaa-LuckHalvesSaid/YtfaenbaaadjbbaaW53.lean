/- Walk: the specification's Halving. -/
import Derived.Test.YtfaenbaaadjbbaaW46
import Derived.StillTailTactics
namespace Go.Proofs.Ytfaenbaaadjbbaa
open Go.RowKit

/-- Who was wrong before the night i. -/
def wbL (said : List (List Int)) (came : List Int) (n i : Nat) : List Bool := (List.range n).map fun f => decide (wr said came f i ≠ 0)
theorem wbL_len (said : List (List Int)) (came : List Int) (n i : Nat) : (wbL said came n i).length = n := by simp [wbL]
theorem wbL_get {said : List (List Int)} {came : List Int} {n i f : Nat} (h : f < n) : (wbL said came n i).getD f false = decide (wr said came f i ≠ 0) := by simp [wbL, List.getD_eq_getElem?_getD, h]
theorem wbL_zero (said : List (List Int)) (came : List Int) (n : Nat) : wbL said came n 0 = List.replicate n false := by
  apply List.ext_getElem
  · simp [wbL]
  · intro i h1 h2; simp [wbL, wr]
def wbTo (said : List (List Int)) (came : List Int) (i t f : Nat) : Bool := if f < t then decide (wr said came f (i + 1) ≠ 0) else decide (wr said came f i ≠ 0)
theorem wb_next {said : List (List Int)} {came : List Int} {n i : Nat} {L : List Bool} (hl : L.length = n) (h : ∀ f, f < n → L.getD f false = wbTo said came i n f) : L = wbL said came n (i + 1) := by
  apply List.ext_getElem (by rw [hl, wbL_len])
  intro j h1 h2
  have hj : j < n := by omega
  have e1 := h j hj
  have e2 := wbL_get (said := said) (came := came) (i := i + 1) hj
  unfold wbTo at e1
  rw [if_pos hj, ← e2] at e1
  simpa [List.getD_eq_getElem?_getD, h1, h2] using e1
theorem ne_and {a : Nat} {s x : Int} : decide (a + (if s = x then 0 else 1) ≠ 0) = (decide (a ≠ 0) || (s != x)) := by
  by_cases h1 : a = 0 <;> by_cases h2 : s = x <;> simp [h1, h2]
set_option linter.unusedSimpArgs false in
set_option linter.unusedVariables false in
set_option maxRecDepth 100000 in
set_option maxHeartbeats 8000000 in
theorem f47_good (A B : Option Addr) (n k c d : Nat) (said : List (List Int)) (came : List Int) (w : World) (hs : IntsS w A k said) (ho : Ints w B k came) (h0 : recErr n said came = 0) (hn1 : 1 ≤ n) (hn : n ≤ 20) (hk : k ≤ 200)
    (hrow : ∀ i, i < k → (said.getD i []).length = n ∧ ∀ j, (said.getD i []).getD j 0 = 0 ∨ (said.getD i []).getD j 0 = 1) :
    Calls Try.prog 47 #[.int .i64 (n : Int), .slice A k c, .slice B k d] w (SlE w (toldL (halfF said came n) k) 0) := by
  have k35 := Lib.hid (f35_any A B n k c k d said came w hs ho)
  rw [h0] at k35
  have HS := Lib.hid hs
  have HO := Lib.hid ho
  have HR := Lib.hid hrow
  have hmk := make_bools n (by omega) w
  obtain ⟨w2, hw2⟩ : ∃ w2, w2 = w.alloc (.cells ((List.replicate n false).map Value.bool).toArray 4) := ⟨_, rfl⟩
  rw [← hw2] at hmk
  have O2 : Hid (OwnB w2 w.heap.size (wbL said came n 0)) := by rw [hw2, wbL_zero]; exact OwnB.made w n
  have B2 : Hid (Below w.heap.size w w2) := by rw [hw2]; exact below_alloc _ _
  have HZ2 : Hid (w2.heap.size = w.heap.size + 1) := by rw [hw2]; unfold Hid; simp
  clear hs ho h0 hrow hw2
  go_enter Try.func47, Try.ntmps47
  go_wp2_with fail
  refine k35.out.mono ?_
  rintro e w1 ⟨rfl, rfl⟩
  go_wp2_with fail
  go_loopw [10, 11, 12, 13, 14, 15] (fun v i _ _ _ _ wr => ∃ q : Nat, q ≤ k ∧ i = .int .i64 (q : Int) ∧ Row wr w2.heap.size v (toldL (halfF said came n) q) ∧ OwnB wr w.heap.size (wbL said came n q) ∧ Below w.heap.size w wr ∧ w2.heap.size ≤ wr.heap.size) (fun _ i _ _ _ _ _ => k - (intOf i).toNat)
  case atStart => exact ⟨0, by omega, rfl, Row.nil _ _, O2.out, B2.out, Nat.le_refl _⟩
  case round => as_aux_lemma =>
    obtain ⟨q, hq, rfl, hrow, hown, hbel, hsz⟩ := hrel
    have HRW := Lib.hid hrow
    have HOW := Lib.hid hown
    have HB := Lib.hid hbel
    by_cases hlt : q < k
    · obtain ⟨b, off, rfl, D, e, hcr, hi⟩ := HS.out.at_ hlt
      obtain ⟨bC, oC, rfl, hcc⟩ := HO.out.at_ hlt
      obtain ⟨r1, r2⟩ := HR.out q hlt
      rw [r1] at hcr hi
      have HCR := Lib.hid hcr
      have HCC := Lib.hid hcc
      have HI := Lib.hid hi
      have HBIT := Lib.hid r2
      have HON : Hid (∀ t, onTo said came q (t + 1) = onTo said came q t + if Go.Proofs.Ytfaenbaaadjbbaa.wr said came t q = 0 ∧ (said.getD q []).getD t 0 = 1 then 1 else 0) := fun t => rfl
      have HAL : Hid (∀ t, alTo said came q (t + 1) = alTo said came q t + if Go.Proofs.Ytfaenbaaadjbbaa.wr said came t q = 0 then 1 else 0) := fun t => rfl
      have HWR : Hid (∀ f, decide (Go.Proofs.Ytfaenbaaadjbbaa.wr said came f (q + 1) ≠ 0) = (decide (Go.Proofs.Ytfaenbaaadjbbaa.wr said came f q ≠ 0) || ((said.getD q []).getD f 0 != came.getD q 0))) := fun f => by rw [wr_step]; exact ne_and
      have HL1 := Lib.hid (alTo_le said came q)
      have HL2 := Lib.hid (onTo_le said came q)
      have HZ1 : Hid (alTo said came q 0 = 0 ∧ onTo said came q 0 = 0) := ⟨rfl, rfl⟩
      have HF : Hid (halfF said came n q = if alTo said came q n < 2 * onTo said came q n then 1 else 0) := rfl
      have hst := Lib.hid (toldL_succ (halfF said came n) q)
      have hll : Hid ((toldL (halfF said came n) q).length ≤ 1000000) := by rw [toldL_len]; unfold Hid; omega
      have HG0 : Hid (∀ f, f < n → (wbL said came n q).getD f false = wbTo said came q 0 f) := fun f hf => by rw [wbL_get hf]; unfold wbTo; rw [if_neg (by omega)]
      have HWL : Hid ((wbL said came n q).length = n) := wbL_len _ _ _ _
      generalize came.getD q 0 = x at *
      generalize said.getD q [] = row at *
      obtain ⟨wq, rfl⟩ : ∃ wq : World, wq = wr := ⟨_, rfl⟩
      have hq0 : (0 : Int) ≤ (q : Int) := by omega
      have hqk : (q : Int) < (k : Int) := by omega
      clear hrow hown hbel hcr hcc hi r1 r2
      go_wp2_with fail
      go_loopw [12, 13, 14] (fun o z j wr' => ∃ (t : Nat) (L : List Bool), t ≤ n ∧ j = .int .i64 (t : Int) ∧ o = .int .i64 (onTo said came q t : Int) ∧ z = .int .i64 ((alTo said came q t : Int) - (onTo said came q t : Int)) ∧ OwnB wr' w.heap.size L ∧ Hid (L.length = n ∧ ∀ f, f < n → L.getD f false = wbTo said came q t f) ∧ Below w.heap.size w wr' ∧ wq.grownBy wr' (some w.heap.size)) (fun _ _ j _ => n - (intOf j).toNat)
      case atStart => exact ⟨0, _, by omega, rfl, by rw [HZ1.out.2]; rfl, by rw [HZ1.out.1, HZ1.out.2]; rfl, HOW.out, ⟨HWL.out, HG0.out⟩, HB.out, World.grownBy.refl _ _⟩
      case round => as_aux_lemma =>
        obtain ⟨t, L, ht, rfl, rfl, rfl, hown, hL, hbel, hgr⟩ := hrel
        have HOW2 := Lib.hid hown
        have HB2 := Lib.hid hbel
        have HG2 := Lib.hid hgr
        have hl1 := HL1.out t
        have hl2 := HL2.out t
        by_cases hlt2 : t < n
        · obtain ⟨bD, oD, rfl, hcd⟩ := HI.out.at_ hlt2
          have c1 := (hbel.cell (lt_of_cell HCR.out)).trans HCR.out
          have c2 := (hbel.cell (lt_of_cell hcd)).trans hcd
          have c3 := (hbel.cell (lt_of_cell HCC.out)).trans HCC.out
          have hco := hown.cell t (by rw [hL.out.1]; exact hlt2)
          have hfz := hown.frozen t
          rw [hL.out.2 t hlt2] at hco
          have e0 : wbTo said came q t t = decide (Go.Proofs.Ytfaenbaaadjbbaa.wr said came t q ≠ 0) := by unfold wbTo; rw [if_neg (by omega)]
          rw [e0] at hco
          have son := Lib.hid (HON.out t)
          have sal := Lib.hid (HAL.out t)
          have swr := Lib.hid (HWR.out t)
          have HNX : Hid (∀ v : Bool, v = decide (Go.Proofs.Ytfaenbaaadjbbaa.wr said came t (q + 1) ≠ 0) → (L.set t v).length = n ∧ ∀ f, f < n → (L.set t v).getD f false = wbTo said came q (t + 1) f) := fun v hv => ⟨by rw [List.length_set]; exact hL.out.1, fun f hf => by
            rw [getB_set _ _ _ _ (by rw [hL.out.1]; exact hlt2)]
            by_cases h : f = t
            · subst h; rw [if_pos rfl, hv]; unfold wbTo; rw [if_pos (by omega)]
            · rw [if_neg h, hL.out.2 f hf]
              unfold wbTo
              by_cases h2 : f < t
              · rw [if_pos h2, if_pos (by omega)]
              · rw [if_neg h2, if_neg (by omega)]⟩
          have hbit := HBIT.out t
          generalize onTo said came q t = o at *
          generalize alTo said came q t = al at *
          generalize row.getD t 0 = s at *
          have t0 : (0 : Int) ≤ (t : Int) := by omega
          have tn : (t : Int) < (n : Int) := by omega
          have hs0 : 0 ≤ s := by omega
          have hs1 : s ≤ 1 := by omega
          generalize hwz : Go.Proofs.Ytfaenbaaadjbbaa.wr said came t q = wz at *
          clear hown hbel hgr e0 hwz
          by_cases hz : wz = 0
          · have hd : decide (wz ≠ 0) = false := by simp [hz]
            rw [hd] at hco
            rw [hd, Bool.false_or] at swr
            obtain ⟨S, hS⟩ : ∃ S : Nat, s = S := nat_of s hs0
            have son' : Hid (((onTo said came q (t + 1) : Nat) : Int) = (o : Int) + s) := by
              rw [son.out]; unfold Hid; rcases hbit with h | h <;> simp [hz, h]
            have sal' : Hid (((alTo said came q (t + 1) : Nat) : Int) = (al : Int) + 1) := by
              rw [sal.out]; unfold Hid; simp [hz]
            have w1 : IntKind.i64.wrap ((o : Int) + s) = (o : Int) + s := IntWalk.i64_in _ (by omega)
            have w2' : IntKind.i64.wrap (1 - s) = 1 - s := IntWalk.i64_in _ (by omega)
            have w3 : IntKind.i64.wrap ((al : Int) - (o : Int) + (1 - s)) = (al : Int) - (o : Int) + (1 - s) := IntWalk.i64_in _ (by omega)
            clear hS hbit hd hz son sal
            go_wp2_with fail
            go_still_tail 21, (by kernel_rfl)
            change wpList _ _ _ _ _ wr.drew
            go_wp2_with fail
            go_roundw
            case rel => exact ⟨t + 1, L.set t (s != x), by omega, by go_num, by rw [son'.out], by rw [sal'.out, son'.out]; exact congrArg (Value.int .i64) (by omega), (HOW2.out.set_ t (s != x)).drew, HNX.out (s != x) swr.out.symm, (HB2.out.setCell (Nat.le_refl _) _).drew, grown_trans (grown_trans HG2.out (grown_set _ _ _ _)) (grown_below (below_drewN (Below.refl _ _) 1) _)⟩
            case measure => simp [intOf]; omega
          · have hd : decide (wz ≠ 0) = true := by simp [hz]
            rw [hd] at hco
            rw [hd, Bool.true_or] at swr
            rw [if_neg (fun h => hz h.1)] at son
            rw [if_neg hz] at sal
            clear hd hz hbit
            go_wp2_with fail
            refine wp_region_held_drew (S := fun W => W.cell? ⟨w.heap.size, t, none⟩ = some (.bool true)) (by kernel_rfl) hco (fun HS0 => ?_)
            refine wpAnyH_take (i := 0) (oi := { dst := some 60, op := Op.move (Operand.tmp 9), type := 61, pos := "ref.go:56", after := #[], guard := none }) (v := .slice (some ⟨w.heap.size, 0, none⟩) n n) rfl (by kernel_rfl) (by kernel_rfl) (by kernel_rfl) (fun _ _ _ h => h) (Or.inl ⟨by kernel_rfl, fun W hSW => rfl⟩) HS0 ?_
            simp only [Act.put, List.setIfInBounds_toArray, List.set_cons_zero, List.set_cons_succ]
            refine wpAnyH_take (i := 1) (oi := { dst := some 61, op := Op.move (Operand.tmp 14), type := 3, pos := "ref.go:56", after := #[], guard := none }) (v := .int .i64 (t : Int)) rfl (by kernel_rfl) (by kernel_rfl) (by kernel_rfl) (fun _ _ _ h => h) (Or.inl ⟨by kernel_rfl, fun W hSW => rfl⟩) HS0 ?_
            simp only [Act.put, List.setIfInBounds_toArray, List.set_cons_zero, List.set_cons_succ]
            refine wpAnyH_take (i := 2) (oi := { dst := some 62, op := Op.move (Operand.tmp 9), type := 61, pos := "ref.go:56", after := #[], guard := none }) (v := .slice (some ⟨w.heap.size, 0, none⟩) n n) rfl (by kernel_rfl) (by kernel_rfl) (by kernel_rfl) (fun _ _ _ h => h) (Or.inl ⟨by kernel_rfl, fun W hSW => rfl⟩) HS0 ?_
            simp only [Act.put, List.setIfInBounds_toArray, List.set_cons_zero, List.set_cons_succ]
            refine wpAnyH_take (i := 3) (oi := { dst := some 63, op := Op.move (Operand.tmp 14), type := 3, pos := "ref.go:56", after := #[], guard := none }) (v := .int .i64 (t : Int)) rfl (by kernel_rfl) (by kernel_rfl) (by kernel_rfl) (fun _ _ _ h => h) (Or.inl ⟨by kernel_rfl, fun W hSW => rfl⟩) HS0 ?_
            simp only [Act.put, List.setIfInBounds_toArray, List.set_cons_zero, List.set_cons_succ]
            refine wpAnyH_take (i := 4) (oi := { dst := some 64, op := Op.indexAddr 61 (Operand.tmp 62) (Operand.tmp 63), type := 0, pos := "ref.go:56", after := #[{ on := 2, ground := Ground.data }, { on := 3, ground := Ground.data }], guard := none }) (v := .pointer (some ⟨w.heap.size, t, none⟩)) rfl (by kernel_rfl) (by kernel_rfl) (by kernel_rfl) (fun _ _ _ h => h) (Or.inl ⟨by kernel_rfl, fun W hSW => by go_simp⟩) HS0 ?_
            simp only [Act.put, List.setIfInBounds_toArray, List.set_cons_zero, List.set_cons_succ]
            refine wpAnyH_take (i := 5) (oi := { dst := some 65, op := Op.load 4 (Operand.tmp 64), type := 4, pos := "ref.go:56", after := #[{ on := 4, ground := Ground.data }], guard := none }) (v := .bool true) rfl (by kernel_rfl) (by kernel_rfl) (by kernel_rfl) (fun _ _ _ h => h) (Or.inl ⟨by kernel_rfl, fun W hSW => by go_simp⟩) HS0 ?_
            simp only [Act.put, List.setIfInBounds_toArray, List.set_cons_zero, List.set_cons_succ]
            refine wpAnyH_take (i := 6) (oi := { dst := some 66, op := Op.move (Operand.tmp 65), type := 4, pos := "ref.go:56", after := #[{ on := 5, ground := Ground.data }], guard := none }) (v := .bool true) rfl (by kernel_rfl) (by kernel_rfl) (by kernel_rfl) (fun _ _ _ h => h) (Or.inl ⟨by kernel_rfl, fun W hSW => rfl⟩) HS0 ?_
            simp only [Act.put, List.setIfInBounds_toArray, List.set_cons_zero, List.set_cons_succ]
            refine wpAnyH_take (i := 7) (oi := { dst := some 67, op := Op.move (Operand.tmp 1), type := 22, pos := "ref.go:56", after := #[{ on := 6, ground := Ground.guard }], guard := some (6, false) }) (v := undef) rfl (by kernel_rfl) (by kernel_rfl) (by kernel_rfl) (fun _ _ _ h => h) (Or.inr ⟨by kernel_rfl, rfl⟩) HS0 ?_
            simp only [Act.put, List.setIfInBounds_toArray, List.set_cons_zero, List.set_cons_succ]
            refine wpAnyH_take (i := 8) (oi := { dst := some 68, op := Op.move (Operand.tmp 11), type := 3, pos := "ref.go:56", after := #[{ on := 6, ground := Ground.guard }], guard := some (6, false) }) (v := undef) rfl (by kernel_rfl) (by kernel_rfl) (by kernel_rfl) (fun _ _ _ h => h) (Or.inr ⟨by kernel_rfl, rfl⟩) HS0 ?_
            simp only [Act.put, List.setIfInBounds_toArray, List.set_cons_zero, List.set_cons_succ]
            refine wpAnyH_take (i := 9) (oi := { dst := some 69, op := Op.indexAddr 22 (Operand.tmp 67) (Operand.tmp 68), type := 0, pos := "ref.go:56", after := #[{ on := 7, ground := Ground.data }, { on := 8, ground := Ground.data }, { on := 6, ground := Ground.guard }], guard := some (6, false) }) (v := undef) rfl (by kernel_rfl) (by kernel_rfl) (by kernel_rfl) (fun _ _ _ h => h) (Or.inr ⟨by kernel_rfl, rfl⟩) HS0 ?_
            simp only [Act.put, List.setIfInBounds_toArray, List.set_cons_zero, List.set_cons_succ]
            refine wpAnyH_take (i := 10) (oi := { dst := some 70, op := Op.load 31 (Operand.tmp 69), type := 31, pos := "ref.go:56", after := #[{ on := 9, ground := Ground.data }, { on := 6, ground := Ground.guard }], guard := some (6, false) }) (v := undef) rfl (by kernel_rfl) (by kernel_rfl) (by kernel_rfl) (fun _ _ _ h => h) (Or.inr ⟨by kernel_rfl, rfl⟩) HS0 ?_
            simp only [Act.put, List.setIfInBounds_toArray, List.set_cons_zero, List.set_cons_succ]
            refine wpAnyH_take (i := 11) (oi := { dst := some 71, op := Op.move (Operand.tmp 14), type := 3, pos := "ref.go:56", after := #[{ on := 6, ground := Ground.guard }], guard := some (6, false) }) (v := undef) rfl (by kernel_rfl) (by kernel_rfl) (by kernel_rfl) (fun _ _ _ h => h) (Or.inr ⟨by kernel_rfl, rfl⟩) HS0 ?_
            simp only [Act.put, List.setIfInBounds_toArray, List.set_cons_zero, List.set_cons_succ]
            refine wpAnyH_take (i := 12) (oi := { dst := some 72, op := Op.indexAddr 31 (Operand.tmp 70) (Operand.tmp 71), type := 0, pos := "ref.go:56", after := #[{ on := 10, ground := Ground.data }, { on := 11, ground := Ground.data }, { on := 6, ground := Ground.guard }], guard := some (6, false) }) (v := undef) rfl (by kernel_rfl) (by kernel_rfl) (by kernel_rfl) (fun _ _ _ h => h) (Or.inr ⟨by kernel_rfl, rfl⟩) HS0 ?_
            simp only [Act.put, List.setIfInBounds_toArray, List.set_cons_zero, List.set_cons_succ]
            refine wpAnyH_take (i := 13) (oi := { dst := some 73, op := Op.load 3 (Operand.tmp 72), type := 3, pos := "ref.go:56", after := #[{ on := 12, ground := Ground.data }, { on := 6, ground := Ground.guard }], guard := some (6, false) }) (v := undef) rfl (by kernel_rfl) (by kernel_rfl) (by kernel_rfl) (fun _ _ _ h => h) (Or.inr ⟨by kernel_rfl, rfl⟩) HS0 ?_
            simp only [Act.put, List.setIfInBounds_toArray, List.set_cons_zero, List.set_cons_succ]
            refine wpAnyH_take (i := 14) (oi := { dst := some 74, op := Op.move (Operand.tmp 2), type := 31, pos := "ref.go:56", after := #[{ on := 6, ground := Ground.guard }], guard := some (6, false) }) (v := undef) rfl (by kernel_rfl) (by kernel_rfl) (by kernel_rfl) (fun _ _ _ h => h) (Or.inr ⟨by kernel_rfl, rfl⟩) HS0 ?_
            simp only [Act.put, List.setIfInBounds_toArray, List.set_cons_zero, List.set_cons_succ]
            refine wpAnyH_take (i := 15) (oi := { dst := some 75, op := Op.move (Operand.tmp 11), type := 3, pos := "ref.go:56", after := #[{ on := 6, ground := Ground.guard }], guard := some (6, false) }) (v := undef) rfl (by kernel_rfl) (by kernel_rfl) (by kernel_rfl) (fun _ _ _ h => h) (Or.inr ⟨by kernel_rfl, rfl⟩) HS0 ?_
            simp only [Act.put, List.setIfInBounds_toArray, List.set_cons_zero, List.set_cons_succ]
            refine wpAnyH_take (i := 16) (oi := { dst := some 76, op := Op.indexAddr 31 (Operand.tmp 74) (Operand.tmp 75), type := 0, pos := "ref.go:56", after := #[{ on := 14, ground := Ground.data }, { on := 15, ground := Ground.data }, { on := 6, ground := Ground.guard }], guard := some (6, false) }) (v := undef) rfl (by kernel_rfl) (by kernel_rfl) (by kernel_rfl) (fun _ _ _ h => h) (Or.inr ⟨by kernel_rfl, rfl⟩) HS0 ?_
            simp only [Act.put, List.setIfInBounds_toArray, List.set_cons_zero, List.set_cons_succ]
            refine wpAnyH_take (i := 17) (oi := { dst := some 77, op := Op.load 3 (Operand.tmp 76), type := 3, pos := "ref.go:56", after := #[{ on := 16, ground := Ground.data }, { on := 6, ground := Ground.guard }], guard := some (6, false) }) (v := undef) rfl (by kernel_rfl) (by kernel_rfl) (by kernel_rfl) (fun _ _ _ h => h) (Or.inr ⟨by kernel_rfl, rfl⟩) HS0 ?_
            simp only [Act.put, List.setIfInBounds_toArray, List.set_cons_zero, List.set_cons_succ]
            refine wpAnyH_take (i := 18) (oi := { dst := some 78, op := Op.binOp BinOp.neq 3 (Operand.tmp 73) (Operand.tmp 77) 3, type := 4, pos := "ref.go:56", after := #[{ on := 13, ground := Ground.data }, { on := 17, ground := Ground.data }, { on := 6, ground := Ground.guard }], guard := some (6, false) }) (v := undef) rfl (by kernel_rfl) (by kernel_rfl) (by kernel_rfl) (fun _ _ _ h => h) (Or.inr ⟨by kernel_rfl, rfl⟩) HS0 ?_
            simp only [Act.put, List.setIfInBounds_toArray, List.set_cons_zero, List.set_cons_succ]
            refine wpAnyH_take (i := 19) (oi := { dst := some 79, op := Op.pick (Operand.tmp 66) (Operand.const (Value.bool true)) (Operand.tmp 78), type := 4, pos := "ref.go:56", after := #[{ on := 6, ground := Ground.data }, { on := 18, ground := Ground.data }], guard := none }) (v := .bool true) rfl (by kernel_rfl) (by kernel_rfl) (by kernel_rfl) (fun _ _ _ h => h) (Or.inl ⟨by kernel_rfl, fun W hSW => rfl⟩) HS0 ?_
            simp only [Act.put, List.setIfInBounds_toArray, List.set_cons_zero, List.set_cons_succ]
            refine wpAnyH_take (i := 20) (oi := { dst := some 80, op := Op.indexAddr 61 (Operand.tmp 60) (Operand.tmp 61), type := 0, pos := "ref.go:56", after := #[{ on := 0, ground := Ground.data }, { on := 1, ground := Ground.data }, { on := 0, ground := Ground.phase }, { on := 1, ground := Ground.phase }, { on := 2, ground := Ground.phase }, { on := 3, ground := Ground.phase }, { on := 4, ground := Ground.phase }, { on := 5, ground := Ground.phase }, { on := 6, ground := Ground.phase }, { on := 7, ground := Ground.phase }, { on := 8, ground := Ground.phase }, { on := 9, ground := Ground.phase }, { on := 10, ground := Ground.phase }, { on := 11, ground := Ground.phase }, { on := 12, ground := Ground.phase }, { on := 13, ground := Ground.phase }, { on := 14, ground := Ground.phase }, { on := 15, ground := Ground.phase }, { on := 16, ground := Ground.phase }, { on := 17, ground := Ground.phase }, { on := 18, ground := Ground.phase }, { on := 19, ground := Ground.phase }], guard := none }) (v := .pointer (some ⟨w.heap.size, t, none⟩)) rfl (by kernel_rfl) (by kernel_rfl) (by kernel_rfl) (fun _ _ _ h => h) (Or.inl ⟨by kernel_rfl, fun W hSW => by go_simp⟩) HS0 ?_
            simp only [Act.put, List.setIfInBounds_toArray, List.set_cons_zero, List.set_cons_succ]
            refine wpAnyH_ready (rs := [21]) (by kernel_rfl) (by simp) ?_
            refine AllReadyH.cons (o := { dst := none, op := Op.store 4 (Operand.tmp 80) (Operand.tmp 79), type := 0, pos := "ref.go:56", after := #[{ on := 20, ground := Ground.data }, { on := 19, ground := Ground.data }, { on := 6, ground := Ground.chain }, { on := 0, ground := Ground.phase }, { on := 1, ground := Ground.phase }, { on := 2, ground := Ground.phase }, { on := 3, ground := Ground.phase }, { on := 4, ground := Ground.phase }, { on := 5, ground := Ground.phase }, { on := 6, ground := Ground.phase }, { on := 7, ground := Ground.phase }, { on := 8, ground := Ground.phase }, { on := 9, ground := Ground.phase }, { on := 10, ground := Ground.phase }, { on := 11, ground := Ground.phase }, { on := 12, ground := Ground.phase }, { on := 13, ground := Ground.phase }, { on := 14, ground := Ground.phase }, { on := 15, ground := Ground.phase }, { on := 16, ground := Ground.phase }, { on := 17, ground := Ground.phase }, { on := 18, ground := Ground.phase }, { on := 19, ground := Ground.phase }], guard := none }) rfl (fun K hK => ?_) AllReadyH.nil
            go_simp
            refine hK.out _ _ (by first | exact World.cell?_setCell_same hco | exact World.cell?_setCell_same _ _ _ hco) (fun _ => ?_)
            clear hK K
            refine wpAnyH_done (by kernel_rfl) ?_ _
            go_wp2_with fail
            go_roundw
            case rel => exact ⟨t + 1, L.set t true, by omega, by go_num, by rw [son.out]; rfl, by rw [sal.out, son.out]; rfl, (HOW2.out.set_ t true).drew, HNX.out true swr.out.symm, (HB2.out.setCell (Nat.le_refl _) _).drew, grown_trans (grown_trans HG2.out (grown_set _ _ _ _)) (grown_below (below_drewN (Below.refl _ _) 1) _)⟩
            case measure => simp [intOf]; omega
        · obtain rfl : t = n := by omega
          have hLe : L = wbL said came t (q + 1) := wb_next hL.out.1 hL.out.2
          rw [hLe] at HOW2
          have HR2 : Hid (Row wr w2.heap.size _ (toldL (halfF said came t) q)) := Row.kept HRW.out hgr (by rw [HZ2.out]; omega)
          have hszr : w2.heap.size ≤ wr.heap.size := Nat.le_trans hsz hgr.size
          clear hown hbel hgr
          generalize onTo said came q t = o at *
          generalize alTo said came q t = al at *
          by_cases hx : al < 2 * o
          · have hw1 : Hid (halfF said came t q = 1) := by rw [HF.out, if_pos hx]; rfl
            have hxi : (al : Int) - (o : Int) < (o : Int) := by omega
            clear hx HF
            go_wp2_with (at_builtin; refine wpList_push rfl (.tmp 84) (.tmp 86) rfl w2.heap.size _ (toldL (halfF said came t) q) rfl (HR2.out.alloc _) wr.heap.size 1 1 rfl (cell_new wr _ 3 0) hll.out (by simp; omega) ?_; intro v2 w4 hr4 hg4)
            rw [← hw1.out, hst.out] at hr4
            have B4 : Hid (Below w.heap.size w w4) := below_grown (HB2.out.alloc HB2.out.size _) hg4 (by have := HB2.out.size; simp; omega) (HR2.out.alloc _) (by rw [HZ2.out]; omega)
            have O4 : Hid (OwnB w4 w.heap.size (wbL said came t (q + 1))) := (hg4.block w.heap.size (by have := HOW2.out.lt; simp; omega) (fun e => by
              have := World.ownsRow.lt HR2.out _ e.symm
              rw [HZ2.out] at this
              omega)).trans (HOW2.out.alloc _)
            have R4 := Lib.hid hr4
            have hsz4 : w2.heap.size ≤ w4.heap.size := by have := hg4.size; simp at this; omega
            clear hr4 hg4
            go_wp2_with fail
            go_roundw
            case rel => exact ⟨q + 1, by omega, by go_num, R4.out, O4.out, B4.out, hsz4⟩
            case measure => simp [intOf]; omega
          · have hw1 : Hid (halfF said came t q = 0) := by rw [HF.out, if_neg hx]; rfl
            have hxi : ¬ (al : Int) - (o : Int) < (o : Int) := by omega
            clear hx HF
            go_wp2_with (at_builtin; refine wpList_push rfl (.tmp 84) (.tmp 86) rfl w2.heap.size _ (toldL (halfF said came t) q) rfl (HR2.out.alloc _) wr.heap.size 1 0 rfl (cell_new wr _ 3 0) hll.out (by simp; omega) ?_; intro v2 w4 hr4 hg4)
            rw [← hw1.out, hst.out] at hr4
            have B4 : Hid (Below w.heap.size w w4) := below_grown (HB2.out.alloc HB2.out.size _) hg4 (by have := HB2.out.size; simp; omega) (HR2.out.alloc _) (by rw [HZ2.out]; omega)
            have O4 : Hid (OwnB w4 w.heap.size (wbL said came t (q + 1))) := (hg4.block w.heap.size (by have := HOW2.out.lt; simp; omega) (fun e => by
              have := World.ownsRow.lt HR2.out _ e.symm
              rw [HZ2.out] at this
              omega)).trans (HOW2.out.alloc _)
            have R4 := Lib.hid hr4
            have hsz4 : w2.heap.size ≤ w4.heap.size := by have := hg4.size; simp at this; omega
            clear hr4 hg4
            go_wp2_with fail
            go_roundw
            case rel => exact ⟨q + 1, by omega, by go_num, R4.out, O4.out, B4.out, hsz4⟩
            case measure => simp [intOf]; omega
    · obtain rfl : q = k := by omega
      obtain ⟨A4, c4, hv, hi4⟩ := hrow.form
      have hi4 := hi4 200 (by rw [toldL_len]; omega) (by omega)
      rw [toldL_len] at hv hi4
      subst hv
      have HI4 := Lib.hid hi4
      have HB4 := Lib.hid hbel
      clear hrow hi4 hown hbel
      go_wp2
      go_ret2
      exact ⟨_, _, _, rfl, HI4.out, HB4.out⟩
set_option maxRecDepth 100000 in
set_option maxHeartbeats 2000000 in
/-- dibberref05.Halving -/
theorem f47_any (A B : Option Addr) (n : Int) (k c m d : Nat) (said : List (List Int)) (came : List Int) (w : World) (hs : IntsS w A k said) (ho : Ints w B m came) :
    Calls Try.prog 47 #[.int .i64 n, .slice A k c, .slice B m d] w (SlE w (tellH n said came) (recErr n said came)) := by
  by_cases h0 : recErr n said came = 0
  · obtain ⟨N, rfl, g1, g2, g3, g4, g5, g6⟩ := recErr_facts h0
    have hlen := hs.len
    have hmk : m = k := by have := ho.len; omega
    subst hmk
    have e1 : tellH (N : Int) said came = toldL (halfF said came N) m := by unfold tellH; rw [if_pos h0, Int.toNat_natCast, hlen]
    rw [e1, h0]
    exact f47_good A B N m c d said came w hs ho h0 g1 g2 (by omega) (fun i hi => ⟨(g5 i (by omega)).1, fun j => bit_get (g5 i (by omega)).2 j⟩)
  · have e1 : tellH n said came = [] := by unfold tellH; rw [if_neg h0]
    have k35 := Lib.hid (f35_any A B n k c m d said came w hs ho)
    rw [e1]
    generalize recErr n said came = er at *
    have hq : (er != 0) = true := by simpa using h0
    clear hs ho e1 h0
    go_enter Try.func47, Try.ntmps47
    go_wp2_with fail
    refine k35.out.mono ?_
    rintro e w1 ⟨rfl, rfl⟩
    go_wp2_with fail
    go_ret2
    exact ⟨_, _, _, rfl, Ints.nil _ _, Below.refl _ _⟩
end Go.Proofs.Ytfaenbaaadjbbaa
