/- Walks: dibberref08.Proof. -/
import Derived.Test.YtpehhbiodmgjeaaW10
import Derived.Test.YtpehhbiodmgjeaaPlain3
namespace Go.Proofs.Ytpehhbiodmgjeaa
open Go.RowKit

set_option maxRecDepth 100000 in
set_option maxHeartbeats 4000000 in
/-- dibberref08.Proof -/
theorem f19_any (A : Option Addr) (n : Int) (len c : Nat) (xs : List Int) (w : World) (hs : Ints w A len xs) :
    Calls Try.prog 19 #[.int .i64 n, .slice A len c] w fun e w' =>
      ∃ A' k c', e = .returned (.tuple #[.slice A' k c', .int .i64 (proofErr n xs)]) ∧ Ints w' A' k (proofR n xs) ∧ Below w.heap.size w w' := by
  have k46 := Lib.hid (f46_any A n len c xs w hs)
  by_cases h : asked n xs = 0
  · obtain ⟨hok, hT⟩ := asked_zero h
    obtain ⟨n', rfl, h1, h6, hln, hbd, h0⟩ := costOk_facts hok
    have HL : Hid (len = 2 ^ n') := by rw [← hs.len]; exact hln
    have hl64 : len ≤ 64 := by rw [HL.out]; exact pow6 n' h6
    have hpos : 0 < len := by rw [HL.out]; exact Nat.pow_pos (by omega)
    have HXL := Lib.hid hs.len
    have hS : small xs < len := by rw [← HXL.out]; exact small_lt xs (by rw [HXL.out]; exact hpos)
    rw [h] at k46
    have e1 : Hid (proofErr n' xs = 0) := h
    have e2 : Hid (proofR n' xs = proofTo n' xs (small xs) n') := by unfold proofR; rw [if_pos h, Int.toNat_natCast, proofTo_all]; rfl
    have HS := Lib.hid hs
    have HBN := Lib.hid hbd
    have k47 : Hid (∀ md, Calls Try.prog 47 #[.slice A len c] (w.drewN md) fun e w' => e = .returned (.tuple #[.int .i64 (low xs), .int .i64 (small xs : Int), .int .i64 (large xs : Int)]) ∧ w.drewN md = w') :=
      fun md => f47_any A n' len c xs _ (hs.drewN md) h6 HL.out
    have HL0 : Hid (((len : Int) - 1) = ((2 ^ n' - 2 ^ 0 : Nat) : Int)) := by
      have e := HL.out
      show (len : Int) - 1 = ((2 ^ n' - 1 : Nat) : Int)
      rw [← e]; omega
    clear h hok hT hln h0 hs hbd
    generalize small xs = S at *
    obtain ⟨Z, hZ⟩ : ∃ Z, Z = ((List.replicate n' (0 : Int)).map (Value.int .i64)).toArray := ⟨_, rfl⟩
    have hmk := make_ints n' (by omega)
    rw [← hZ] at hmk
    have HZ := Lib.hid hZ
    clear hZ
    go_enter Try.func19, Try.ntmps19
    go_wp2_with fail
    refine k46.out.mono ?_
    rintro e w1 ⟨rfl, md, rfl⟩
    go_wp2_with fail
    refine (k47.out md).mono ?_
    rintro e w1 ⟨rfl, rfl⟩
    go_wp2
    go_loopw [11, 12] (fun l i wr => ∃ k : Nat, k ≤ n' ∧ i = .int .i64 k ∧ l = .int .i64 ((2 ^ n' - 2 ^ k : Nat) : Int) ∧ Own wr w.heap.size (proofTo n' xs S k) ∧ Below w.heap.size w wr) (fun _ i _ => n' - (intOf i).toNat)
    case atStart => exact ⟨0, by omega, rfl, congrArg _ HL0.out, by rw [HZ.out, proofTo_zero]; exact (Own.made w n').drewN md, below_drewN (below_alloc _ _) _⟩
    case round =>
      obtain ⟨k, hk, rfl, rfl, hown, hbel⟩ := hrel
      have HO := Lib.hid hown
      have HB := Lib.hid hbel
      by_cases hlt : k < n'
      · have hI := HS.out.below hbel
        have hst := left_step n' h6 k hlt
        have hpw : 2 ^ n' ≤ 64 := pow6 n' h6
        have hset : Hid ((proofTo n' xs S k).set k (proofAt n' xs S k) = proofTo n' xs S (k + 1)) := proofTo_succ n' xs S k
        have c5 := hown.cell k (by rw [proofTo_len]; exact hlt)
        have c6 := hown.frozen k
        have hlen2 := proofTo_len n' xs S k
        generalize proofTo n' xs S k = L at *
        obtain ⟨N, hN, hshl⟩ := shl_one k (by omega)
        have hsb := shr_bit S k
        have hli : Hid (S.testBit k = true → ((2 ^ n' - 2 ^ (k + 1)) &&& S) + N = (2 ^ n' - 2 ^ k) &&& S) := by rw [hN]; exact left_in n' h6 k hlt S (by omega)
        have hlo : Hid ((2 ^ n' - 2 ^ (k + 1)) ||| S ||| N = S ||| (2 ^ n' - 2 ^ k)) := by rw [hN]; exact left_out n' h6 k hlt S (by omega)
        have hpa : Hid (proofAt n' xs S k = if S.testBit k then inner xs ((2 ^ n' - 2 ^ k) &&& S) - inner xs ((2 ^ n' - 2 ^ (k + 1)) &&& S)
          else outer xs (S ||| (2 ^ n' - 2 ^ k)) - outer xs (S ||| (2 ^ n' - 2 ^ (k + 1)))) := rfl
        have HN := Lib.hid hN
        clear hown hbel hlen2
        have HLN : Hid (len = 2 ^ n') := HL.out
        have hp1 : 1 ≤ 2 ^ k := Nat.pow_pos (by omega)
        have hp2 : 1 ≤ 2 ^ (k + 1) := Nat.pow_pos (by omega)
        have hl064 : 2 ^ n' - 2 ^ k < 64 := by omega
        have hl164 : 2 ^ n' - 2 ^ (k + 1) < 64 := by omega
        have hl0n : Hid (2 ^ n' - 2 ^ k < 2 ^ n') := by unfold Hid; omega
        have hl1n : Hid (2 ^ n' - 2 ^ (k + 1) < 2 ^ n') := by unfold Hid; omega
        clear hp1 hp2 hpw
        generalize hl1e : 2 ^ n' - 2 ^ (k + 1) = l1 at *
        have HE1 := Lib.hid hl1e
        clear hl1e
        generalize 2 ^ n' - 2 ^ k = l0 at *
        rw [← hN] at hst
        clear hN
        obtain ⟨hl0, hl1⟩ := hst
        have hpos0 : 0 < xs.length := by rw [HXL.out]; exact hpos
        cases hb : S.testBit k
        · rw [hb] at hsb hli hpa
          have hlo' := hlo.out
          have hpa' : Hid (proofAt n' xs S k = outer xs (S ||| l0) - outer xs (S ||| l1)) := hpa.out
          have e3 := bits_or_nat l1 S (by omega) (by omega)
          have hc3 : l1 ||| S = S ||| l1 := Nat.or_comm _ _
          have hN64 : N ≤ 64 := by omega
          have hx1 : S ||| l1 < 64 := or_lt (n := 6) (by omega) hl164
          have hx0 : S ||| l0 < 64 := or_lt (n := 6) (by omega) hl064
          rw [hc3] at e3 hlo'
          have e4 := bits_or_nat (S ||| l1) N (by omega) (by omega)
          rw [hlo'] at e4
          have hx1' : S ||| l1 < 2 ^ n' := or_lt (by rw [← HLN.out]; exact hS) hl1n.out
          have hx0' : S ||| l0 < 2 ^ n' := or_lt (by rw [← HLN.out]; exact hS) hl0n.out
          have b1 := outer_in xs HBN.out n' (S ||| l0) h6 (by rw [HXL.out]; exact HLN.out) hx0'
          have b2 := outer_in xs HBN.out n' (S ||| l1) h6 (by rw [HXL.out]; exact HLN.out) hx1'
          have k51a := Lib.hid (f51_any A len c xs (S ||| l0) wr hI hpos hl64 hx0)
          have k51b := Lib.hid (f51_any A len c xs (S ||| l1) wr hI hpos hl64 hx1)
          generalize S ||| l0 = x0 at *
          generalize S ||| l1 = x1 at *
          generalize outer xs x0 = y0 at *
          generalize outer xs x1 = y1 at *
          subst hl0
          clear hli hlo hpa hb hI hl1 hlo' hc3 hx1' hx0'
          go_wp2_with fail
          refine k51a.out.mono ?_
          rintro e w' ⟨rfl, rfl⟩
          go_wp2_with fail
          refine k51b.out.mono ?_
          rintro e w' ⟨rfl, rfl⟩
          go_wp2
          go_roundw
          case rel => exact ⟨k + 1, by omega, by go_num, by rw [HE1.out], by rw [← hset.out, hpa'.out]; exact HO.out.set_ k _, HB.out.setCell (Nat.le_refl _) _⟩
          case measure => simp [intOf]; omega
        · rw [hb] at hsb hli hpa
          have hli' := hli.out rfl
          have hpa' : Hid (proofAt n' xs S k = inner xs (l0 &&& S) - inner xs (l1 &&& S)) := hpa.out
          have ea := bits_and_nat l1 S (by omega) (by omega)
          have hx1 : l1 &&& S < 64 := and_lt hl164
          have hx0 : l0 &&& S < 64 := and_lt hl064
          have b1 := inner_in xs HBN.out (l0 &&& S) hpos0
          have b2 := inner_in xs HBN.out (l1 &&& S) hpos0
          have k50a := Lib.hid (f50_any A len c xs (l0 &&& S) wr hI hpos hl64 hx0)
          have k50b := Lib.hid (f50_any A len c xs (l1 &&& S) wr hI hpos hl64 hx1)
          generalize l0 &&& S = x0 at *
          generalize l1 &&& S = x1 at *
          subst hli'
          generalize inner xs (x1 + N) = y0 at *
          generalize inner xs x1 = y1 at *
          have hl1' : N ≤ l0 := hl1
          have hl0' : l0 - N = l1 := by omega
          have HL1 := Lib.hid hl0'
          subst hl0
          clear hli hlo hpa hb hI hl1 hl0' HL1
          go_wp2_with fail
          refine k50a.out.mono ?_
          rintro e w' ⟨rfl, rfl⟩
          go_wp2_with fail
          refine k50b.out.mono ?_
          rintro e w' ⟨rfl, rfl⟩
          go_wp2
          go_roundw
          case rel => exact ⟨k + 1, by omega, by go_num, by rw [HE1.out], by rw [← hset.out, hpa'.out]; exact HO.out.set_ k _, HB.out.setCell (Nat.le_refl _) _⟩
          case measure => simp [intOf]; omega
      · obtain rfl : k = n' := by omega
        go_wp2
        go_ret2
        exact ⟨_, _, _, by rw [e1.out]; rfl, by rw [e2.out]; exact HO.out.ints' (proofTo_len _ _ _ _) (by omega), HB.out⟩
  · have e1 : Hid (proofErr n xs = asked n xs) := rfl
    have e2 : Hid (proofR n xs = []) := by unfold proofR; rw [if_neg h]; rfl
    have hq : (asked n xs != 0) = true := by simpa using h
    clear h
    go_enter Try.func19, Try.ntmps19
    go_wp2_with fail
    refine k46.out.mono ?_
    rintro e w1 ⟨rfl, md, rfl⟩
    go_wp2
    go_ret2
    exact ⟨none, 0, 0, by rw [e1.out]; rfl, by rw [e2.out]; exact Ints.nil _ _, below_drewN (Below.refl _ _) _⟩
end Go.Proofs.Ytpehhbiodmgjeaa
