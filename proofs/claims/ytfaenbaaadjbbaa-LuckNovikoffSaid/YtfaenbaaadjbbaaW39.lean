/- Walks: above, total. -/
import Derived.Test.YtfaenbaaadjbbaaW38
namespace Go.Proofs.Ytfaenbaaadjbbaa
open Go.RowKit

/-- A total of weights in binary, in 2^-200. -/
def Tot (w : World) (A : Option Addr) (H : Int) : Prop := ∃ L : List Int, Ints w A 201 L ∧ (∀ j, 0 < j → 0 ≤ L.getD j 0 ∧ L.getD j 0 ≤ 1) ∧ valI (fun j => L.getD j 0) 201 = H
theorem Tot.below {w w' : World} {A : Option Addr} {H : Int} (h : Tot w A H) (hb : Below w.heap.size w w') : Tot w' A H := by
  obtain ⟨L, h1, h2⟩ := h
  exact ⟨L, h1.below hb, h2⟩
theorem Tot.heap {w w' : World} {A : Option Addr} {H : Int} (h : Tot w A H) (e : w'.heap = w.heap) : Tot w' A H := by
  obtain ⟨L, h1, h2⟩ := h
  refine ⟨L, ⟨h1.1, h1.2.1, fun hn => ?_⟩, h2⟩
  obtain ⟨b, off, e1, hc⟩ := h1.2.2 hn
  exact ⟨b, off, e1, fun j hj => by
    have h2 := hc j hj
    unfold World.cell? at h2 ⊢
    rw [e]; exact h2⟩
set_option maxRecDepth 100000 in
set_option maxHeartbeats 2000000 in
/-- dibberref05.above -/
theorem f62_any (A B : Option Addr) (c d : Nat) (H G : Int) (w : World) (hA : Tot w A H) (hB : Tot w B G) :
    Calls Try.prog 62 #[.slice A 201 c, .slice B 201 d] w fun e w' => e = .returned (.bool (decide (G < H))) ∧ ∃ k, w' = w.drewN k := by
  obtain ⟨L, hl1, hl2, hl3⟩ := hA
  obtain ⟨M, hm1, hm2, hm3⟩ := hB
  have hab := above_val hl2 hm2 201 (Nat.le_refl _) rfl
  rw [hl3, hm3] at hab
  rw [← hab]
  have HI1 := Lib.hid hl1
  have HI2 := Lib.hid hm1
  have HST : Hid (∀ k, aboveTo (fun j => L.getD j 0) (fun j => M.getD j 0) 201 (k + 1) = if L.getD (201 - (k + 1)) 0 = M.getD (201 - (k + 1)) 0 then aboveTo (fun j => L.getD j 0) (fun j => M.getD j 0) 201 k else decide (M.getD (201 - (k + 1)) 0 < L.getD (201 - (k + 1)) 0)) := fun k => rfl
  have HZ : Hid (aboveTo (fun j => L.getD j 0) (fun j => M.getD j 0) 201 0 = false) := rfl
  obtain ⟨F, hF⟩ : ∃ F, F = aboveTo (fun j => L.getD j 0) (fun j => M.getD j 0) 201 := ⟨_, rfl⟩
  rw [← hF] at HST HZ ⊢
  clear hl1 hl2 hl3 hm1 hm2 hm3 hab hF
  go_enter Try.func62, Try.ntmps62
  go_wp2
  go_loopw [5] (fun i wr => ∃ q : Nat, q ≤ 201 ∧ i = .int .i64 (q : Int) ∧ Hid (F 201 = F (201 - q)) ∧ ∃ k, wr = w.drewN k) (fun i _ => 201 - (intOf i).toNat)
  case atStart => exact ⟨0, by omega, rfl, rfl, 0, rfl⟩
  case round =>
    obtain ⟨q, hq, rfl, HF, k0, rfl⟩ := hrel
    by_cases hlt : q < 201
    · obtain ⟨b1, o1, rfl, h1⟩ := HI1.out.at_ hlt
      obtain ⟨b2, o2, rfl, h2⟩ := HI2.out.at_ hlt
      have hst : Hid (F 201 = if L.getD q 0 = M.getD q 0 then F (201 - (q + 1)) else decide (M.getD q 0 < L.getD q 0)) := by
        have := HST.out (201 - (q + 1))
        have e1 : 201 - (q + 1) + 1 = 201 - q := by omega
        have e2 : 201 - (201 - q) = q := by omega
        rw [e1, e2] at this
        rw [HF.out, this]; rfl
      generalize L.getD q 0 = x at *
      generalize M.getD q 0 = y at *
      have hq0 : (0 : Int) ≤ (q : Int) := by omega
      have hq1 : (q : Int) < 201 := by omega
      clear HF
      by_cases he : x = y
      · have hne : (x != y) = false := by simpa using he
        rw [if_pos he] at hst
        clear he
        go_wp2
        go_quiet (fail)
        go_wp2
        go_roundw
        case rel => exact ⟨q + 1, by omega, by go_num, hst, by first | exact ⟨_, rfl⟩ | exact ⟨_, World.drewN_drewN _ _ _⟩⟩
        case measure => simp [intOf]; omega
      · have hne : (x != y) = true := by simpa using he
        rw [if_neg he] at hst
        clear he
        go_wp2
        go_quiet (fail)
        go_wp2
        go_quiet (fail)
        go_wp2
        go_ret
        exact ⟨ret_bool hst.out.symm, by first | exact ⟨_, rfl⟩ | exact ⟨_, World.drewN_drewN _ _ _⟩ | exact ⟨_, (congrArg (fun W => World.drewN W _) (World.drewN_drewN _ _ _)).trans (World.drewN_drewN _ _ _)⟩⟩
    · obtain rfl : q = 201 := by omega
      have hst : Hid (F 201 = false) := by rw [HF.out]; exact HZ.out
      go_wp2
      go_ret
      exact ⟨ret_bool hst.out.symm, k0, rfl⟩
/-- The weights, in 2^-200, of those who say x. -/
def halfSum (ss ws : List Int) (x : Int) : Nat → Int
  | 0 => 0
  | k + 1 => if ss.getD k 0 = x then halfSum ss ws x k + ((2 ^ (200 - (ws.getD k 0).toNat) : Nat) : Int) else halfSum ss ws x k
theorem zerosI (n j : Nat) : (List.replicate n (0 : Int)).getD j 0 = 0 := by
  by_cases h : j < n
  · simp [List.getD_eq_getElem?_getD, h]
  · simp [List.getD_eq_getElem?_getD, h]
theorem zerosV (k : Nat) (n : Nat := 201) : valI (fun j => (List.replicate n (0 : Int)).getD j 0) k = 0 := by
  induction k with
  | zero => rfl
  | succ k ih =>
    show valI _ k + (List.replicate n (0 : Int)).getD k 0 * _ = 0
    rw [ih, zerosI]; simp
theorem getN_set (l : List Int) (i j : Nat) (x : Int) (h : i < l.length) (hj : j ≠ i) : (l.set i x).getD j 0 = l.getD j 0 := by rw [getI_set _ _ _ _ h, if_neg hj]
theorem getS_set (l : List Int) (i : Nat) (x : Int) (h : i < l.length) : (l.set i x).getD i 0 = x := by rw [getI_set _ _ _ _ h, if_pos rfl]
set_option maxRecDepth 100000 in
set_option maxHeartbeats 4000000 in
/-- dibberref05.total -/
theorem f63_any (A B : Option Addr) (n c d : Nat) (ws ss : List Int) (x : Int) (w : World) (hw : Ints w A n ws) (hs : Ints w B n ss) (hn : n ≤ 20) (hin : ∀ j, 0 ≤ ws.getD j 0 ∧ ws.getD j 0 ≤ 200) :
    Calls Try.prog 63 #[.slice A n c, .slice B n d, .int .i64 x] w fun e w' => ∃ A' c', e = .returned (.slice A' 201 c') ∧ Tot w' A' (halfSum ss ws x n) ∧ Below w.heap.size w w' := by
  have HW := Lib.hid hw
  have HS := Lib.hid hs
  have HIN := Lib.hid hin
  have hmk := make_ints 201 (by omega) w
  obtain ⟨w2, hw2⟩ : ∃ w2, w2 = w.alloc (.cells ((List.replicate 201 (0 : Int)).map (Value.int .i64)).toArray 3) := ⟨_, rfl⟩
  have hmk' : (Instr.makeSlice 31 (.int .i64 201) (.int .i64 201)).run Try.prog w = .ok (.slice (some ⟨w.heap.size, 0, none⟩) 201 201) w2 := by rw [hw2]; exact hmk
  have O0 : Hid (Own w2 w.heap.size (List.replicate 201 0)) := by rw [hw2]; exact Own.made w 201
  have B0 : Hid (Below w.heap.size w w2) := by rw [hw2]; exact below_alloc _ _
  clear hw hs hin hmk hw2
  go_enter Try.func63, Try.ntmps63
  go_wp2_with fail
  go_loopw [8] (fun i wr => ∃ (k : Nat) (L : List Int), k ≤ n ∧ i = .int .i64 (k : Int) ∧ Own wr w.heap.size L ∧ Below w.heap.size w wr ∧ Hid (L.length = 201 ∧ (∀ j, 0 ≤ L.getD j 0 ∧ L.getD j 0 ≤ k) ∧ valI (fun j => L.getD j 0) 201 = halfSum ss ws x k)) (fun i _ => n - (intOf i).toNat)
  case atStart => exact ⟨0, _, by omega, rfl, O0.out, B0.out, ⟨by rw [List.length_replicate], fun j => by rw [zerosI]; omega, zerosV 201⟩⟩
  case round => as_aux_lemma =>
    obtain ⟨k, L, hk, rfl, hown, hbel, hL⟩ := hrel
    have HOW := Lib.hid hown
    have HB := Lib.hid hbel
    by_cases hlt : k < n
    · obtain ⟨b1, o1, rfl, h1⟩ := HW.out.at_ hlt
      obtain ⟨b2, o2, rfl, h2⟩ := HS.out.at_ hlt
      have h1 := (hbel.cell (lt_of_cell h1)).trans h1
      have h2 := (hbel.cell (lt_of_cell h2)).trans h2
      obtain ⟨i1, i2⟩ := HIN.out k
      obtain ⟨W, hW⟩ : ∃ W : Nat, ws.getD k 0 = W := nat_of _ i1
      have hst : Hid (halfSum ss ws x (k + 1) = if ss.getD k 0 = x then halfSum ss ws x k + ((2 ^ (200 - W) : Nat) : Int) else halfSum ss ws x k) := by
        show (if ss.getD k 0 = x then halfSum ss ws x k + ((2 ^ (200 - (ws.getD k 0).toNat) : Nat) : Int) else halfSum ss ws x k) = _
        rw [hW, Int.toNat_natCast]
      rw [hW] at h1 i2
      have hW2 : W ≤ 200 := by omega
      have hco := hown.cell W (by rw [hL.out.1]; omega)
      have hfz := hown.frozen W
      have hv := hL.out.2.1 W
      generalize hy : L.getD W 0 = y at *
      have HY := Lib.hid hy
      generalize ss.getD k 0 = s at *
      have hW0 : (0 : Int) ≤ (W : Int) := by omega
      have hW1 : (W : Int) < 201 := by omega
      clear hown hbel hW i1 hy
      by_cases he : s = x
      · have hq : (s == x) = true := by simpa using he
        rw [if_pos he] at hst
        clear he
        go_wp2
        go_roundw
        case rel => exact ⟨k + 1, L.set W (y + 1), by omega, by go_num, HOW.out.set_ W _, HB.out.setCell (Nat.le_refl _) _, ⟨by rw [List.length_set]; exact hL.out.1, fun j => by
          by_cases hj : j = W
          · subst hj; rw [getS_set _ _ _ (by rw [hL.out.1]; omega)]; omega
          · rw [getN_set _ _ _ _ (by rw [hL.out.1]; omega) hj]
            have := hL.out.2.1 j
            omega, by
          rw [hst.out, ← hL.out.2.2]
          have := valI_add (T := fun j => L.getD j 0) (U := fun j => (L.set W (y + 1)).getD j 0) (n := 201) (i := W) (d := 1) (by omega) (by show (L.set W (y + 1)).getD W 0 = L.getD W 0 + 1; rw [getS_set _ _ _ (by rw [hL.out.1]; omega), HY.out]) (fun j hj => getN_set _ _ _ _ (by rw [hL.out.1]; omega) hj)
          rw [this, Int.one_mul]⟩⟩
        case measure => simp [intOf]; omega
      · have hq : (s == x) = false := by simpa using he
        rw [if_neg he] at hst
        clear he
        go_wp2
        go_roundw
        case rel => exact ⟨k + 1, L, by omega, by go_num, HOW.out, HB.out, ⟨hL.out.1, fun j => by have := hL.out.2.1 j; omega, by rw [hst.out]; exact hL.out.2.2⟩⟩
        case measure => simp [intOf]; omega
    · obtain rfl : k = n := by omega
      have hM0 : Hid (L.length = 201 ∧ (∀ j, j < 200 → 0 ≤ L.getD j 0 ∧ L.getD j 0 ≤ 20) ∧ (0 ≤ L.getD 200 0 ∧ L.getD 200 0 ≤ 40) ∧ (∀ j, 200 < j → 0 ≤ L.getD j 0 ∧ L.getD j 0 ≤ 1) ∧ valI (fun j => L.getD j 0) 201 = halfSum ss ws x k) :=
        ⟨hL.out.1, fun j _ => by have := hL.out.2.1 j; omega, by have := hL.out.2.1 200; omega, fun j hj => by
          have : L.getD j 0 = 0 := by rw [List.getD_eq_getElem?_getD, List.getElem?_eq_none (by rw [hL.out.1]; omega)]; rfl
          rw [this]; omega, hL.out.2.2⟩
      clear hown hbel hL
      go_wp2_with fail
      go_loopw [9] (fun i wr => ∃ (t : Nat) (M : List Int), t ≤ 200 ∧ i = .int .i64 (t : Int) ∧ Own wr w.heap.size M ∧ Below w.heap.size w wr ∧ Hid (M.length = 201 ∧ (∀ j, j < t → 0 ≤ M.getD j 0 ∧ M.getD j 0 ≤ 20) ∧ (0 ≤ M.getD t 0 ∧ M.getD t 0 ≤ 40) ∧ (∀ j, t < j → 0 ≤ M.getD j 0 ∧ M.getD j 0 ≤ 1) ∧ valI (fun j => M.getD j 0) 201 = halfSum ss ws x k)) (fun i _ => (intOf i).toNat)
      case atStart => exact ⟨200, L, by omega, rfl, HOW.out, HB.out, hM0⟩
      case round => as_aux_lemma =>
        obtain ⟨t, M, ht, rfl, hown, hbel, hM⟩ := hrel
        have HOM := Lib.hid hown
        have HBM := Lib.hid hbel
        by_cases hlt : 0 < t
        · obtain ⟨u, rfl⟩ : ∃ u, t = u + 1 := ⟨t - 1, by omega⟩
          have c1 := hown.cell u (by rw [hM.out.1]; omega)
          have c2 := hown.cell (u + 1) (by rw [hM.out.1]; omega)
          have f1 := hown.frozen u
          have f2 := hown.frozen (u + 1)
          have v1 := hM.out.2.1 u (by omega)
          have v2 := hM.out.2.2.1
          generalize hy : M.getD u 0 = y at *
          generalize hz : M.getD (u + 1) 0 = z at *
          have HY := Lib.hid hy
          have HZ := Lib.hid hz
          obtain ⟨q, hq⟩ : ∃ q, q = z / 2 := ⟨_, rfl⟩
          obtain ⟨r, hr⟩ : ∃ r, r = z % 2 := ⟨_, rfl⟩
          have eq1 : z.tdiv 2 = q := by rw [Int.tdiv_eq_ediv_of_nonneg v2.1]; exact hq.symm
          have er1 : z.tmod 2 = r := by rw [Int.tmod_eq_emod_of_nonneg v2.1]; exact hr.symm
          have wq : IntKind.i64.wrap q = q := IntWalk.i64_in _ (by omega)
          have wr' : IntKind.i64.wrap r = r := IntWalk.i64_in _ (by omega)
          have wy : IntKind.i64.wrap (y + q) = y + q := IntWalk.i64_in _ (by omega)
          have wu : IntKind.i64.wrap (u : Int) = (u : Int) := IntWalk.i64_in _ (by omega)
          have u0 : (0 : Int) ≤ (u : Int) := by omega
          have u1 : (u : Int) < 201 := by omega
          have u2 : (0 : Int) ≤ (u : Int) + 1 := by omega
          have u3 : (u : Int) + 1 < 201 := by omega
          have HQ := Lib.hid hq
          have HRr := Lib.hid hr
          clear hown hbel hy hz hq hr
          go_wp2_with fail
          go_still_tail 12, (by kernel_rfl)
          change wpList _ _ _ _ _ wr.drew
          go_wp2_with fail
          go_roundw
          case rel =>
            obtain ⟨m1, m2, m3, m4, m5⟩ := hM.out
            have hl1 : (M.set u (y + q)).length = 201 := by rw [List.length_set]; exact m1
            have g1 : ((M.set u (y + q)).set (u + 1) r).getD u 0 = y + q := by
              rw [getN_set _ _ _ _ (by rw [hl1]; omega) (by omega), getS_set _ _ _ (by rw [m1]; omega)]
            have g2 : ((M.set u (y + q)).set (u + 1) r).getD (u + 1) 0 = r := getS_set _ _ _ (by rw [hl1]; omega)
            have g3 : ∀ j, j ≠ u → j ≠ u + 1 → ((M.set u (y + q)).set (u + 1) r).getD j 0 = M.getD j 0 := fun j h1 h2 => by
              rw [getN_set _ _ _ _ (by rw [hl1]; omega) h2, getN_set _ _ _ _ (by rw [m1]; omega) h1]
            refine ⟨u, (M.set u (y + q)).set (u + 1) r, by omega, rfl, ((HOM.out.set_ u _).set_ (u + 1) _).drew, ((HBM.out.setCell (Nat.le_refl _) _).setCell (Nat.le_refl _) _).drew, ⟨by rw [List.length_set]; exact hl1, fun j hj => ?_, ?_, fun j hj => ?_, ?_⟩⟩
            · rw [g3 j (by omega) (by omega)]; exact m2 j (by omega)
            · rw [g1]
              have := HQ.out
              omega
            · by_cases h : j = u + 1
              · subst h; rw [g2]
                have := HRr.out
                omega
              · rw [g3 j (by omega) h]; exact m4 j (by omega)
            · rw [← m5]
              exact valI_carry (i := u) (by omega) (by omega) (by show _ = M.getD (u + 1) 0 % 2; rw [HZ.out, ← HRr.out]; exact g2) (by show _ = M.getD u 0 + M.getD (u + 1) 0 / 2; rw [HZ.out, HY.out, ← HQ.out]; exact g1) g3
          case measure => simp [intOf]
        · obtain rfl : t = 0 := by omega
          have hT : Hid (Tot wr (some ⟨w.heap.size, 0, none⟩) (halfSum ss ws x k)) := ⟨M, hown.ints' hM.out.1 (by omega), fun j hj => hM.out.2.2.2.1 j hj, hM.out.2.2.2.2⟩
          clear hown hbel
          go_wp2
          go_ret
          exact ⟨_, _, rfl, hT.out, HBM.out⟩
end Go.Proofs.Ytfaenbaaadjbbaa
