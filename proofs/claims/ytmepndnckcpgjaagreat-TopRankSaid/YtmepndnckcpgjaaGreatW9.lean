/- Walks: Fills. -/
import Derived.Test.YtmepndnckcpgjaaGreatW8
namespace Go.Proofs.YtmepndnckcpgjaaGreat
open Go.RowKit

set_option maxHeartbeats 2000000 in
/-- share.Fills, taken -/
theorem f33_yes (A B : Option Addr) (n len c m d : Nat) (xs ws : List Int) (w : World) (hs : Ints w A len xs) (ho : Ints w B m ws) (hok : costOk n xs = true) (hw : wOk n ws = true) :
    Calls Tryz.prog 16 #[.int .i64 (n : Int), .slice A len c, .slice B m d] w fun e w' =>
      e = .returned (.tuple #[.int .i64 (fills xs ws), .int .i64 0]) ∧ Below w.heap.size w w' := by
  obtain ⟨n', hn', h1, h6, hln, hbd, h0⟩ := costOk_facts hok
  obtain rfl : n = n' := by omega
  obtain ⟨hwl, hwb⟩ := wOk_facts hw
  have hm : m = n := by rw [← ho.len]; exact hwl
  have HL : Hid (len = 2 ^ n) := by rw [← hs.len]; exact hln
  have hpos : 0 < len := by rw [HL.out]; exact Nat.pow_pos (by omega)
  have hl64 : len ≤ 64 := by rw [HL.out]; exact pow6 n h6
  have k52 := Lib.hid (f52_yes A n len c xs w hs hok)
  have hc' := Costs.new w n A len c
  have hb' := below_alloc w (.cells #[.int .i64 (n : Int), .slice A len c] 70)
  have hs' := hs.below hb'
  have ho' := ho.below hb'
  generalize hw1 : w.alloc (.cells #[.int .i64 (n : Int), .slice A len c] 70) = w1 at *
  generalize w.heap.size = p at *
  have HW := Lib.hid hw1
  clear hw1
  have k65 := Lib.hid (f65_any p A B n len c m d ws w1 hc' ho')
  rw [hw] at k65
  have k66 := Lib.hid (f66_any B m d ws w1 ho' (by omega))
  have hh := highTo_in ws ws.length 0 1000 hwb
  have hhi : 0 ≤ high ws ∧ high ws ≤ 1000 := hh
  have hfin : Hid (∀ k : Nat, high ws = k → fillsTo xs ws k = fills xs ws) := fun k hk => (fillsTo_high xs ws h0 k 1000 (by omega) (by omega)).symm
  obtain ⟨H, hH⟩ := nat_of (high ws) (by omega)
  have HF := Lib.hid (hfin.out H hH)
  rw [hH] at k66 hhi
  have hH2 : H ≤ 1000 := by omega
  have HBN := Lib.hid hbd
  have HWL := Lib.hid ho'.len
  obtain ⟨hp0, hp1⟩ := hc'
  obtain ⟨b, off, rfl, hc⟩ := hs'.ad hpos
  obtain ⟨bo, off2, rfl, hc2⟩ := ho'.ad (by omega)
  have HC := Lib.hid hc
  have HC2 := Lib.hid hc2
  have HB := Lib.hid hb'
  clear hc hc2 hb' hs ho hok hw hn' hln h0 hwl hwb hh hfin hH hbd hs' ho' hhi
  subst hm
  go_enter Tryz.func16, Tryz.ntmps16
  go_wp2_with fail
  refine k52.out.mono ?_
  rintro e w' ⟨rfl, rfl⟩
  go_wp2_with fail
  refine k65.out.mono ?_
  rintro e w' ⟨rfl, rfl⟩
  go_wp2
  go_loop [10, 11, 12, 13, 14, 38] (fun s t _ _ _ _ => ∃ k : Nat, k ≤ H ∧ t = .int .i64 ((k + 1 : Nat) : Int) ∧ s = .int .i64 (fillsTo xs ws k)) (fun _ t _ _ _ _ => H + 2 - (intOf t).toNat)
  case atStart => exact ⟨0, by omega, by go_num, rfl⟩
  case round =>
    obtain ⟨k, hk, rfl, rfl⟩ := hrel
    go_wp2_with fail
    refine k66.out.mono ?_
    rintro e w' ⟨rfl, rfl⟩
    by_cases hlt : k < H
    · have hin := fillsTo_in xs ws HBN.out k
      have hst : Hid (fillsTo xs ws (k + 1) = fillsTo xs ws k + xs.getD (grpTo ws ((k : Int) + 1) m) 0) := by show _ + xs.getD (grpTo ws ((k : Int) + 1) ws.length) 0 = _; rw [HWL.out]
      go_wp2
      go_loop [12, 13, 14, 38] (fun g _ _ i => ∃ j : Nat, j ≤ m ∧ i = .int .i64 j ∧ g = .int .i64 (grpTo ws ((k : Int) + 1) j : Int)) (fun _ _ _ i => m - (intOf i).toNat)
      case atStart => exact ⟨0, by omega, rfl, rfl⟩
      case round =>
        obtain ⟨j, hj, rfl, rfl⟩ := hrel
        have hg := grpTo_lt ws ((k : Int) + 1) j
        by_cases hlj : j < m
        · have hcj := HC2.out j hlj
          have hg64 : grpTo ws ((k : Int) + 1) j < 64 := Nat.lt_of_lt_of_le hg (pow6 j (by omega))
          obtain ⟨N, hN, hshl⟩ := shl_one j (by omega)
          have hN2 : N ≤ 64 := by rw [hN]; exact pow6 j (by omega)
          have e2 := bits_or_nat (grpTo ws ((k : Int) + 1) j) N (by omega) (by omega)
          have hst2 : Hid (grpTo ws ((k : Int) + 1) (j + 1) = if (k : Int) + 1 ≤ ws.getD j 0 then grpTo ws ((k : Int) + 1) j ||| N else grpTo ws ((k : Int) + 1) j) := by rw [hN]; rfl
          clear hN hg
          by_cases hw : (k : Int) + 1 ≤ ws[j]?.getD 0
          · have hst3 : Hid (grpTo ws ((k : Int) + 1) (j + 1) = grpTo ws ((k : Int) + 1) j ||| N) := hst2.out.trans (if_pos hw)
            clear hst2
            go_wp2
            go_round
            case rel => exact ⟨j + 1, by omega, by go_num, by rw [hst3.out]⟩
            case measure => simp [intOf]; omega
          · have hst3 : Hid (grpTo ws ((k : Int) + 1) (j + 1) = grpTo ws ((k : Int) + 1) j) := hst2.out.trans (if_neg hw)
            clear hst2
            go_wp2
            go_round
            case rel => exact ⟨j + 1, by omega, by go_num, by rw [hst3.out]⟩
            case measure => simp [intOf]; omega
        · obtain rfl : j = m := by omega
          have hgl : grpTo ws ((k : Int) + 1) j < len := by rw [HL.out]; exact hg
          clear hg
          have hcg := HC.out _ hgl
          have hbg := HBN.out (grpTo ws ((k : Int) + 1) j)
          generalize grpTo ws ((k : Int) + 1) j = G at *
          simp only [List.getD_eq_getElem?_getD] at hcg hbg
          go_wp2
          go_round
          case rel => exact ⟨k + 1, by omega, by go_num, by rw [hst.out]; rfl⟩
          case measure => simp [intOf]; omega
    · obtain rfl : k = H := by omega
      go_wp2
      go_ret2
      exact ⟨by rw [HF.out]; rfl, HB.out⟩

/-- share.Fills -/
theorem f33_any (A B : Option Addr) (n : Int) (len c m d : Nat) (xs ws : List Int) (w : World) (hs : Ints w A len xs) (ho : Ints w B m ws) :
    Calls Tryz.prog 16 #[.int .i64 n, .slice A len c, .slice B m d] w fun e w' =>
      e = .returned (.tuple #[.int .i64 (fillsR n xs ws), .int .i64 (fillsErr n xs ws)]) ∧ Below w.heap.size w w' := by
  cases hok : costOk n xs
  · have k52 := Lib.hid (f52_no A n len c xs w hs hok)
    have e1 : Hid (fillsR n xs ws = 0) := by unfold fillsR; rw [hok]; rfl
    have e2 : Hid (fillsErr n xs ws = 2) := by unfold fillsErr; rw [hok]; rfl
    clear hok
    go_enter Tryz.func16, Tryz.ntmps16
    go_wp2_with fail
    refine k52.out.mono ?_
    rintro e w' ⟨rfl, rfl⟩
    go_wp2
    go_ret2
    exact ⟨by rw [e1.out, e2.out]; rfl, Below.refl _ _⟩
  · obtain ⟨n', rfl, h1, h6, hln, hbd, h0⟩ := costOk_facts hok
    cases hw : wOk n' ws
    · have k52 := Lib.hid (f52_yes A n' len c xs w hs hok)
      have hb' := below_alloc w (.cells #[.int .i64 (n' : Int), .slice A len c] 70)
      have k65 := Lib.hid (f65_any w.heap.size A B n' len c m d ws _ (Costs.new w n' A len c) (ho.below hb'))
      rw [hw] at k65
      have HB := Lib.hid hb'
      have e1 : Hid (fillsR n' xs ws = 0) := by unfold fillsR; rw [Int.toNat_natCast, hok, hw]; rfl
      have e2 : Hid (fillsErr n' xs ws = 2) := by unfold fillsErr; rw [Int.toNat_natCast, hok, hw]; rfl
      clear hok hw hln hbd h0 hb'
      go_enter Tryz.func16, Tryz.ntmps16
      go_wp2_with fail
      refine k52.out.mono ?_
      rintro e w' ⟨rfl, rfl⟩
      go_wp2_with fail
      refine k65.out.mono ?_
      rintro e w' ⟨rfl, rfl⟩
      go_wp2
      go_ret2
      exact ⟨by rw [e1.out, e2.out]; rfl, HB.out⟩
    · have e1 : fillsR n' xs ws = fills xs ws := by unfold fillsR; rw [Int.toNat_natCast, hok, hw]; rfl
      have e2 : fillsErr n' xs ws = 0 := by unfold fillsErr; rw [Int.toNat_natCast, hok, hw]; rfl
      rw [e1, e2]
      exact f33_yes A B n' len c m d xs ws w hs ho hok hw
end Go.Proofs.YtmepndnckcpgjaaGreat
