/- Walks: Fills. -/
import Derived.Test.YtpehhbiodmgjeaaW8
namespace Go.Proofs.Ytpehhbiodmgjeaa
open Go.RowKit

set_option maxHeartbeats 2000000 in
/-- share.Fills, taken -/
theorem f33_yes (A B : Option Addr) (n len c m d : Nat) (xs ws : List Int) (w : World) (hs : Ints w A len xs) (ho : Ints w B m ws) (hok : costOk n xs = true) (hw : wOk n ws = true) :
    Calls Try.prog 33 #[.int .i64 (n : Int), .slice A len c, .slice B m d] w fun e w' =>
      e = .returned (.tuple #[.int .i64 (fills xs ws), .int .i64 0]) ∧ Below w.heap.size w w' := by
  obtain ⟨n', hn', h1, h6, hln, hbd, h0⟩ := costOk_facts hok
  obtain rfl : n = n' := by omega
  obtain ⟨hwl, hwb⟩ := wOk_facts hw
  have hm : m = n := by rw [← ho.len]; exact hwl
  have HL : Hid (len = 2 ^ n) := by rw [← hs.len]; exact hln
  have hpos : 0 < len := by rw [HL.out]; exact Nat.pow_pos (by omega)
  have hl64 : len ≤ 64 := by rw [HL.out]; exact pow6 n h6
  have k52 := Lib.hid (f52_yes A n len c xs w hs hok)
  have hc' := Costs.new w n A len c
  have hb' := below_alloc w (.cells #[.int .i64 (n : Int), .slice A len c] 60)
  have hs' := hs.below hb'
  have ho' := ho.below hb'
  generalize hw1 : w.alloc (.cells #[.int .i64 (n : Int), .slice A len c] 60) = w1 at *
  generalize w.heap.size = p at *
  have HW := Lib.hid hw1
  clear hw1
  have k65 := Lib.hid (f65_any p A B n len c m d ws w1 hc' ho')
  rw [hw] at k65
  have k66 := Lib.hid (f66_any B m d ws w1 ho' (by omega))
  have hh := highTo_in ws ws.length 0 1000 hwb
  have hhi : 0 ≤ high ws ∧ high ws ≤ 1000 := hh
  have hfin : Hid (∀ k : Nat, high ws = k → fillsTo xs ws k = fills xs ws) := fun k hk => (fillsTo_high xs ws h0 k 1000 (by omega) (by omega)).symm
  obtain ⟨H, hH⟩ := nat_of (high ws) (by omega)
  have HF := Lib.hid (hfin.out H hH)
  rw [hH] at k66 hhi
  have hH2 : H ≤ 1000 := by omega
  have HBN := Lib.hid hbd
  have HWL := Lib.hid ho'.len
  obtain ⟨hp0, hp1⟩ := hc'
  obtain ⟨b, off, rfl, hc⟩ := hs'.ad hpos
  obtain ⟨bo, off2, rfl, hc2⟩ := ho'.ad (by omega)
  have HC := Lib.hid hc
  have HC2 := Lib.hid hc2
  have HB := Lib.hid hb'
  clear hc hc2 hb' hs ho hok hw hn' hln h0 hwl hwb hh hfin hH hbd hs' ho' hhi
  subst hm
  go_enter Try.func33, Try.ntmps33
  go_wp2_with fail
  refine k52.out.mono ?_
  rintro e w' ⟨rfl, rfl⟩
  go_wp2_with fail
  refine k65.out.mono ?_
  rintro e w' ⟨rfl, rfl⟩
  go_wp2
  go_loop [10, 11, 12, 13, 14, 38] (fun s t _ _ _ _ => ∃ k : Nat, k ≤ H ∧ t = .int .i64 ((k + 1 : Nat) : Int) ∧ s = .int .i64 (fillsTo xs ws k)) (fun _ t _ _ _ _ => H + 2 - (intOf t).toNat)
  case atStart => exact ⟨0, by omega, by go_num, rfl⟩
  case round =>
    obtain ⟨k, hk, rfl, rfl⟩ := hrel
    go_wp2_with fail
    refine k66.out.mono ?_
    rintro e w' ⟨rfl, rfl⟩
    by_cases hlt : k < H
    · have hin := fillsTo_in xs ws HBN.out k
      have hst : Hid (fillsTo xs ws (k + 1) = fillsTo xs ws k + xs.getD (grpTo ws ((k : Int) + 1) m) 0) := by show _ + xs.getD (grpTo ws ((k : Int) + 1) ws.length) 0 = _; rw [HWL.out]
      go_wp2
      go_loop [12, 13, 14, 38] (fun g _ _ i => ∃ j : Nat, j ≤ m ∧ i = .int .i64 j ∧ g = .int .i64 (grpTo ws ((k : Int) + 1) j : Int)) (fun _ _ _ i => m - (intOf i).toNat)
      case atStart => exact ⟨0, by omega, rfl, rfl⟩
      case round =>
        obtain ⟨j, hj, rfl, rfl⟩ := hrel
        have hg := grpTo_lt ws ((k : Int) + 1) j
        by_cases hlj : j < m
        · have hcj := HC2.out j hlj
          have hg64 : grpTo ws ((k : Int) + 1) j < 64 := Nat.lt_of_lt_of_le hg (pow6 j (by omega))
          obtain ⟨N, hN, hshl⟩ := shl_one j (by omega)
          have hN2 : N ≤ 64 := by rw [hN]; exact pow6 j (by omega)
          have e2 := bits_or_nat (grpTo ws ((k : Int) + 1) j) N (by omega) (by omega)
          have hst2 : Hid (grpTo ws ((k : Int) + 1) (j + 1) = if (k : Int) + 1 ≤ ws.getD j 0 then grpTo ws ((k : Int) + 1) j ||| N else grpTo ws ((k : Int) + 1) j) := by rw [hN]; rfl
          clear hN hg
          by_cases hw : (k : Int) + 1 ≤ ws[j]?.getD 0
          · have hst3 : Hid (grpTo ws ((k : Int) + 1) (j + 1) = grpTo ws ((k : Int) + 1) j ||| N) := hst2.out.trans (if_pos hw)
            clear hst2
            go_wp2
            go_round
            case rel => exact ⟨j + 1, by omega, by go_num, by rw [hst3.out]⟩
            case measure => simp [intOf]; omega
          · have hst3 : Hid (grpTo ws ((k : Int) + 1) (j + 1) = grpTo ws ((k : Int) + 1) j) := hst2.out.trans (if_neg hw)
            clear hst2
            go_wp2
            go_round
            case rel => exact ⟨j + 1, by omega, by go_num, by rw [hst3.out]⟩
            case measure => simp [intOf]; omega
        · obtain rfl : j = m := by omega
          have hgl : grpTo ws ((k : Int) + 1) j < len := by rw [HL.out]; exact hg
          clear hg
          have hcg := HC.out _ hgl
          have hbg := HBN.out (grpTo ws ((k : Int) + 1) j)
          generalize grpTo ws ((k : Int) + 1) j = G at *
          simp only [List.getD_eq_getElem?_getD] at hcg hbg
          go_wp2
          go_round
          case rel => exact ⟨k + 1, by omega, by go_num, by rw [hst.out]; rfl⟩
          case measure => simp [intOf]; omega
    · obtain rfl : k = H := by omega
      go_wp2
      go_ret2
      exact ⟨by rw [HF.out]; rfl, HB.out⟩

set_option maxHeartbeats 1000000 in
/-- dibberref08.Weights -/
theorem f37_any (B : Option Addr) (n m d : Nat) (ws : List Int) (w : World) (ho : Ints w B m ws) (hn : n ≤ 6) :
    Calls Try.prog 37 #[.int .i64 (n : Int), .slice B m d] w fun e w' => e = .returned (.bool (wOk n ws)) ∧ w = w' := by
  have hsm := ho.small
  have HJ := Lib.hid ho
  have hol := Lib.hid ho.len
  clear ho
  by_cases hm : m = n
  · subst hm
    go_enter Try.func37, Try.ntmps37
    go_wp2
    go_loop [5] (fun i => ∃ k : Nat, k ≤ m ∧ i = .int .i64 k ∧ (∀ j, j < k → outW (ws.getD j 0) = false)) (fun i => m - (intOf i).toNat)
    case atStart => exact ⟨0, by omega, rfl, fun j hj => absurd hj (by omega)⟩
    case round =>
      obtain ⟨k, hk, rfl, hbef⟩ := hrel
      have HB := Lib.hid hbef
      clear hbef
      by_cases hlt : k < m
      · obtain ⟨b, off, rfl, hc⟩ := HJ.out.at_ hlt
        by_cases ho : ws[k]?.getD 0 < 0 ∨ 1000 < ws[k]?.getD 0
        · have hfin : wOk m ws = false := by
            have hkl : k < ws.length := by rw [hol.out]; exact hlt
            simp only [List.getElem?_eq_getElem hkl, Option.getD_some] at ho
            have : ws.any outW = true := List.any_eq_true.2 ⟨ws[k], List.getElem_mem hkl, by simp only [outW, Bool.or_eq_true, decide_eq_true_eq]; exact ho⟩
            simp [wOk, this]
          have HF := Lib.hid hfin
          clear hfin
          rcases ho with ho | ho
          · go_wp2
            go_ret
            exact ⟨ret_bool HF.out.symm, rfl⟩
          · go_wp2
            go_ret
            exact ⟨ret_bool HF.out.symm, rfl⟩
        · have ho1 : 0 ≤ ws[k]?.getD 0 := by omega
          have ho2 : ws[k]?.getD 0 ≤ 1000 := by omega
          clear ho
          go_wp2
          go_round
          case rel => exact ⟨k + 1, by omega, by go_num, fun j hj => by
            rcases Nat.lt_or_ge j k with h | h
            · exact HB.out j h
            · obtain rfl : j = k := by omega
              simp only [outW, List.getD_eq_getElem?_getD, Bool.or_eq_false_iff, decide_eq_false_iff_not]
              omega⟩
          case measure => simp [intOf]; omega
      · obtain rfl : k = m := by omega
        have hfin : Hid (wOk k ws = true) := by
          unfold wOk
          simp only [Hid, hol.out, decide_true, Bool.true_and, Bool.not_eq_true', List.any_eq_false]
          intro x hx
          obtain ⟨j, hj, rfl⟩ := List.getElem_of_mem hx
          have := HB.out j (by rw [← hol.out]; exact hj)
          simpa [hj] using this
        go_wp2
        go_ret
        exact ⟨ret_bool hfin.out.symm, rfl⟩
  · have hq : ((m : Int) != (n : Int)) = true := by simp; omega
    have hfin : Hid (wOk n ws = false) := by simp [Hid, wOk, hol.out, hm]
    go_enter Try.func37, Try.ntmps37
    go_wp2
    go_ret
    exact ⟨ret_bool hfin.out.symm, rfl⟩

set_option maxRecDepth 100000 in
set_option maxHeartbeats 2000000 in
/-- dibberref08.Fills, taken -/
theorem f34_yes (A B : Option Addr) (n len c m d : Nat) (xs ws : List Int) (w : World) (hs : Ints w A len xs) (ho : Ints w B m ws) (hok : costOk n xs = true) (hw : wOk n ws = true) :
    Calls Try.prog 34 #[.int .i64 (n : Int), .slice A len c, .slice B m d] w fun e w' =>
      e = .returned (.tuple #[.int .i64 (fills xs ws), .int .i64 0]) ∧ w = w' := by
  have k54 := Lib.hid (f54_any A n len c xs w hs)
  rw [hok] at k54
  obtain ⟨n', hn', h1, h6, hln, hbd, h0⟩ := costOk_facts hok
  obtain rfl : n = n' := by omega
  have k37 := Lib.hid (f37_any B n m d ws w ho h6)
  rw [hw] at k37
  obtain ⟨hwl, hwb⟩ := wOk_facts hw
  have hm : m = n := by rw [← ho.len]; exact hwl
  have HL : Hid (len = 2 ^ n) := by rw [← hs.len]; exact hln
  have hpos : 0 < len := by rw [HL.out]; exact Nat.pow_pos (by omega)
  have hl64 : len ≤ 64 := by rw [HL.out]; exact pow6 n h6
  have HBN := Lib.hid hbd
  have HWL := Lib.hid ho.len
  obtain ⟨b, off, rfl, hc⟩ := hs.ad hpos
  obtain ⟨bo, off2, rfl, hc2⟩ := ho.ad (by omega)
  have HC := Lib.hid hc
  have HC2 := Lib.hid hc2
  obtain ⟨T, hT⟩ : ∃ T : Nat, T = 1000 := ⟨_, rfl⟩
  have HF : Hid (fills xs ws = fillsTo xs ws T) := by rw [hT]; rfl
  have hT1 : T ≤ 1000 := by omega
  have hT2 : 1000 ≤ T := by omega
  clear hT
  clear hc hc2 hs ho hok hw hn' hln h0 hwl hwb hbd
  subst hm
  go_enter Try.func34, Try.ntmps34
  go_wp2_with fail
  refine k54.out.mono ?_
  rintro e w' ⟨rfl, rfl⟩
  go_wp2_with fail
  refine k37.out.mono ?_
  rintro e w' ⟨rfl, rfl⟩
  go_wp2
  go_loop [8, 9, 10, 11] (fun s t _ _ => ∃ k : Nat, k ≤ T ∧ t = .int .i64 ((k + 1 : Nat) : Int) ∧ s = .int .i64 (fillsTo xs ws k)) (fun _ t _ _ => T + 2 - (intOf t).toNat)
  case atStart => exact ⟨0, by omega, by go_num, rfl⟩
  case round =>
    obtain ⟨k, hk, rfl, rfl⟩ := hrel
    by_cases hlt : k < T
    · have hin := fillsTo_in xs ws HBN.out k
      have hst : Hid (fillsTo xs ws (k + 1) = fillsTo xs ws k + xs.getD (grpTo ws ((k : Int) + 1) m) 0) := by show _ + xs.getD (grpTo ws ((k : Int) + 1) ws.length) 0 = _; rw [HWL.out]
      go_wp2
      go_loop [10, 11] (fun g i => ∃ j : Nat, j ≤ m ∧ i = .int .i64 j ∧ g = .int .i64 (grpTo ws ((k : Int) + 1) j : Int)) (fun _ i => m - (intOf i).toNat)
      case atStart => exact ⟨0, by omega, rfl, rfl⟩
      case round =>
        obtain ⟨j, hj, rfl, rfl⟩ := hrel
        have hg := grpTo_lt ws ((k : Int) + 1) j
        by_cases hlj : j < m
        · have hcj := HC2.out j hlj
          have hg64 : grpTo ws ((k : Int) + 1) j < 64 := Nat.lt_of_lt_of_le hg (pow6 j (by omega))
          obtain ⟨N, hN, hshl⟩ := shl_one j (by omega)
          have hN2 : N ≤ 64 := by rw [hN]; exact pow6 j (by omega)
          have e2 : grpTo ws ((k : Int) + 1) j + N = grpTo ws ((k : Int) + 1) j ||| N := by rw [hN]; exact low_add j (by omega) _ hg
          have hst2 : Hid (grpTo ws ((k : Int) + 1) (j + 1) = if (k : Int) + 1 ≤ ws.getD j 0 then grpTo ws ((k : Int) + 1) j + N else grpTo ws ((k : Int) + 1) j) := by rw [e2, hN]; rfl
          clear hN hg e2
          by_cases hw : (k : Int) + 1 ≤ ws[j]?.getD 0
          · have hst3 : Hid (grpTo ws ((k : Int) + 1) (j + 1) = grpTo ws ((k : Int) + 1) j + N) := hst2.out.trans (if_pos hw)
            clear hst2
            go_wp2
            go_round
            case rel => exact ⟨j + 1, by omega, by go_num, by rw [hst3.out]; go_num⟩
            case measure => simp [intOf]; omega
          · have hst3 : Hid (grpTo ws ((k : Int) + 1) (j + 1) = grpTo ws ((k : Int) + 1) j) := hst2.out.trans (if_neg hw)
            clear hst2
            go_wp2
            go_round
            case rel => exact ⟨j + 1, by omega, by go_num, by rw [hst3.out]⟩
            case measure => simp [intOf]; omega
        · obtain rfl : j = m := by omega
          have hgl : grpTo ws ((k : Int) + 1) j < len := by rw [HL.out]; exact hg
          clear hg
          have hcg := HC.out _ hgl
          have hbg := HBN.out (grpTo ws ((k : Int) + 1) j)
          generalize grpTo ws ((k : Int) + 1) j = G at *
          simp only [List.getD_eq_getElem?_getD] at hcg hbg
          go_wp2
          go_round
          case rel => exact ⟨k + 1, by omega, by go_num, by rw [hst.out]; rfl⟩
          case measure => simp [intOf]; omega
    · have HF2 : Hid (fillsTo xs ws k = fills xs ws) := by
        have e : k = T := by omega
        rw [e]; exact HF.out.symm
      clear HF
      go_wp2
      go_ret2
      exact ⟨by rw [← HF2.out]; rfl, rfl⟩

/-- dibberref08.Fills -/
theorem f34_any (A B : Option Addr) (n : Int) (len c m d : Nat) (xs ws : List Int) (w : World) (hs : Ints w A len xs) (ho : Ints w B m ws) :
    Calls Try.prog 34 #[.int .i64 n, .slice A len c, .slice B m d] w fun e w' =>
      e = .returned (.tuple #[.int .i64 (fillsR n xs ws), .int .i64 (fillsErr n xs ws)]) ∧ w = w' := by
  cases hok : costOk n xs
  · have k54 := Lib.hid (f54_any A n len c xs w hs)
    rw [hok] at k54
    have e1 : Hid (fillsR n xs ws = 0) := by unfold fillsR; rw [hok]; rfl
    have e2 : Hid (fillsErr n xs ws = 2) := by unfold fillsErr; rw [hok]; rfl
    clear hok
    go_enter Try.func34, Try.ntmps34
    go_wp2_with fail
    refine k54.out.mono ?_
    rintro e w' ⟨rfl, rfl⟩
    go_wp2
    go_ret2
    exact ⟨by rw [e1.out, e2.out]; rfl, rfl⟩
  · obtain ⟨n', rfl, h1, h6, hln, hbd, h0⟩ := costOk_facts hok
    cases hw : wOk n' ws
    · have k54 := Lib.hid (f54_any A n' len c xs w hs)
      rw [hok] at k54
      have k37 := Lib.hid (f37_any B n' m d ws w ho h6)
      rw [hw] at k37
      have e1 : Hid (fillsR n' xs ws = 0) := by unfold fillsR; rw [Int.toNat_natCast, hok, hw]; rfl
      have e2 : Hid (fillsErr n' xs ws = 2) := by unfold fillsErr; rw [Int.toNat_natCast, hok, hw]; rfl
      clear hok hw hln hbd h0
      go_enter Try.func34, Try.ntmps34
      go_wp2_with fail
      refine k54.out.mono ?_
      rintro e w' ⟨rfl, rfl⟩
      go_wp2_with fail
      refine k37.out.mono ?_
      rintro e w' ⟨rfl, rfl⟩
      go_wp2
      go_ret2
      exact ⟨by rw [e1.out, e2.out]; rfl, rfl⟩
    · have e1 : fillsR n' xs ws = fills xs ws := by unfold fillsR; rw [Int.toNat_natCast, hok, hw]; rfl
      have e2 : fillsErr n' xs ws = 0 := by unfold fillsErr; rw [Int.toNat_natCast, hok, hw]; rfl
      rw [e1, e2]
      exact f34_yes A B n' len c m d xs ws w hs ho hok hw

/-- share.Fills -/
theorem f33_any (A B : Option Addr) (n : Int) (len c m d : Nat) (xs ws : List Int) (w : World) (hs : Ints w A len xs) (ho : Ints w B m ws) :
    Calls Try.prog 33 #[.int .i64 n, .slice A len c, .slice B m d] w fun e w' =>
      e = .returned (.tuple #[.int .i64 (fillsR n xs ws), .int .i64 (fillsErr n xs ws)]) ∧ Below w.heap.size w w' := by
  cases hok : costOk n xs
  · have k52 := Lib.hid (f52_no A n len c xs w hs hok)
    have e1 : Hid (fillsR n xs ws = 0) := by unfold fillsR; rw [hok]; rfl
    have e2 : Hid (fillsErr n xs ws = 2) := by unfold fillsErr; rw [hok]; rfl
    clear hok
    go_enter Try.func33, Try.ntmps33
    go_wp2_with fail
    refine k52.out.mono ?_
    rintro e w' ⟨rfl, rfl⟩
    go_wp2
    go_ret2
    exact ⟨by rw [e1.out, e2.out]; rfl, Below.refl _ _⟩
  · obtain ⟨n', rfl, h1, h6, hln, hbd, h0⟩ := costOk_facts hok
    cases hw : wOk n' ws
    · have k52 := Lib.hid (f52_yes A n' len c xs w hs hok)
      have hb' := below_alloc w (.cells #[.int .i64 (n' : Int), .slice A len c] 60)
      have k65 := Lib.hid (f65_any w.heap.size A B n' len c m d ws _ (Costs.new w n' A len c) (ho.below hb'))
      rw [hw] at k65
      have HB := Lib.hid hb'
      have e1 : Hid (fillsR n' xs ws = 0) := by unfold fillsR; rw [Int.toNat_natCast, hok, hw]; rfl
      have e2 : Hid (fillsErr n' xs ws = 2) := by unfold fillsErr; rw [Int.toNat_natCast, hok, hw]; rfl
      clear hok hw hln hbd h0 hb'
      go_enter Try.func33, Try.ntmps33
      go_wp2_with fail
      refine k52.out.mono ?_
      rintro e w' ⟨rfl, rfl⟩
      go_wp2_with fail
      refine k65.out.mono ?_
      rintro e w' ⟨rfl, rfl⟩
      go_wp2
      go_ret2
      exact ⟨by rw [e1.out, e2.out]; rfl, HB.out⟩
    · have e1 : fillsR n' xs ws = fills xs ws := by unfold fillsR; rw [Int.toNat_natCast, hok, hw]; rfl
      have e2 : fillsErr n' xs ws = 0 := by unfold fillsErr; rw [Int.toNat_natCast, hok, hw]; rfl
      rw [e1, e2]
      exact f33_yes A B n' len c m d xs ws w hs ho hok hw
end Go.Proofs.Ytpehhbiodmgjeaa
