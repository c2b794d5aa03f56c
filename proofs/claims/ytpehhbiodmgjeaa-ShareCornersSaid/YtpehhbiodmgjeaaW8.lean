/- Walks: ordered, Order, weighed, slices.Max. -/
import Derived.Test.YtpehhbiodmgjeaaW7
import Derived.Test.YtpehhbiodmgjeaaPlain2
import Derived.Test.YtpehhbiodmgjeaaBase2
namespace Go.Proofs.Ytpehhbiodmgjeaa
open Go.RowKit

set_option maxHeartbeats 2000000 in
/-- (*costs).ordered -/
theorem f71_any (p : Nat) (A B : Option Addr) (n len c m d : Nat) (os : List Int) (w : World) (hp : Costs w p n A len c) (ho : Ints w B m os) (hn : n ≤ 6) :
    Calls Try.prog 71 #[.pointer (some ⟨p, 0, none⟩), .slice B m d] w fun e w' => e = .returned (.bool (ordOk n os)) ∧ w = w' := by
  have hsm := ho.small
  have k48 := Lib.hid (f48_any p n A len c w hp hn)
  have HJ := Lib.hid ho
  have hol := Lib.hid ho.len
  clear ho
  obtain ⟨hp0, hp1⟩ := hp
  go_enter Try.func71, Try.ntmps71
  go_wp2
  go_loop [5, 7, 10] (fun s _ i => ∃ k : Nat, k ≤ m ∧ i = .int .i64 k ∧ s = .int .i64 (seenTo os k : Int) ∧ (∀ j, j < k → okAt n os j)) (fun _ _ i => m - (intOf i).toNat)
  case atStart => exact ⟨0, by omega, rfl, rfl, fun j hj => absurd hj (by omega)⟩
  case round =>
    obtain ⟨k, hk, rfl, rfl, hbef⟩ := hrel
    have HB := Lib.hid hbef
    have h64 : seenTo os k < 64 := Nat.lt_of_lt_of_le (seenTo_lt n os k hbef) (pow6 n hn)
    clear hbef
    by_cases hlt : k < m
    · obtain ⟨b, off, rfl, hc⟩ := HJ.out.at_ hlt
      have hok : Hid (okAt n os k ↔ 0 ≤ os.getD k 0 ∧ os.getD k 0 < n ∧ (seenTo os k).testBit (os.getD k 0).toNat = false) := Iff.rfl
      have hst : Hid (seenTo os (k + 1) = seenTo os k ||| 2 ^ (os.getD k 0).toNat) := rfl
      have hbad : Hid (¬ okAt n os k → ordOk n os = false) := fun h => ordOk_bad n os k (by rw [hol.out]; exact hlt) h
      generalize os.getD k 0 = x at *
      by_cases h1 : x < 0
      · have hfin := hbad.out (by rw [hok.out]; omega)
        have HF := Lib.hid hfin
        clear hfin
        go_wp2
        go_ret
        exact ⟨ret_bool HF.out.symm, rfl⟩
      by_cases h2 : (n : Int) ≤ x
      · have hfin := hbad.out (by rw [hok.out]; omega)
        have HF := Lib.hid hfin
        clear hfin
        go_wp2
        go_ret
        exact ⟨ret_bool HF.out.symm, rfl⟩
      obtain ⟨i, rfl⟩ := nat_of x (by omega)
      have hi : i < 6 := by omega
      simp only [Int.toNat_natCast] at hok hst
      obtain ⟨N, hN, hshl⟩ := shl_one i (by omega)
      have hN2 : N ≤ 64 := by rw [hN]; exact pow6 i (by omega)
      have e1 := bits_and_nat (seenTo os k) N (by omega) (by omega)
      have e2 := bits_or_nat (seenTo os k) N (by omega) (by omega)
      have hbt := bit_and _ h64 i hi
      rw [← hN] at hst hbt
      cases hb : (seenTo os k).testBit i
      · have hz : seenTo os k &&& N = 0 := by rw [hb] at hbt; simpa using hbt
        rw [hz] at e1
        have hokk : Hid (okAt n os k) := by rw [hok.out]; exact ⟨by omega, by omega, hb⟩
        clear hN hbt hb hz
        go_wp2
        go_round
        case rel => exact ⟨k + 1, by omega, by go_num, by rw [hst.out], fun j hj => by
          rcases Nat.lt_or_ge j k with h | h
          · exact HB.out j h
          · obtain rfl : j = k := by omega
            exact hokk.out⟩
        case measure => simp [intOf]; omega
      · have hz : seenTo os k &&& N ≠ 0 := by rw [hb] at hbt; simpa using hbt
        have hq : (((seenTo os k &&& N : Nat) : Int) != 0) = true := by simpa using hz
        have hfin := hbad.out (by rw [hok.out, hb]; simp)
        have HF := Lib.hid hfin
        clear hN hbt hb hz hfin
        generalize seenTo os k &&& N = a at *
        go_wp2
        go_ret
        exact ⟨ret_bool HF.out.symm, rfl⟩
    · obtain rfl : k = m := by omega
      have hfin := Lib.hid (ordOk_all n hn os (fun j hj => HB.out j (by rw [hol.out] at hj; exact hj)))
      go_wp2_with fail
      refine k48.out.mono ?_
      rintro e w' ⟨rfl, rfl⟩
      have hfin2 : Hid (ordOk n os = ((seenTo os k : Int) == ((2 ^ n - 1 : Nat) : Int))) := by
        rw [hfin.out, hol.out]
        unfold Hid
        rw [Bool.eq_iff_iff]
        simp only [decide_eq_true_eq, beq_iff_eq, Int.ofNat_inj]
      generalize 2 ^ n - 1 = M at *
      go_wp2
      go_ret
      exact ⟨ret_bool hfin2.out.symm, rfl⟩

set_option maxHeartbeats 2000000 in
/-- dibberref08.Order -/
theorem f42_any (B : Option Addr) (n m d : Nat) (os : List Int) (w : World) (ho : Ints w B m os) (hn : n ≤ 6) :
    Calls Try.prog 42 #[.int .i64 (n : Int), .slice B m d] w fun e w' => e = .returned (.bool (ordOk n os)) ∧ w = w' := by
  have hsm := ho.small
  have HJ := Lib.hid ho
  have hol := Lib.hid ho.len
  clear ho
  by_cases hm : m = n
  · subst hm
    go_enter Try.func42, Try.ntmps42
    go_wp2
    go_loop [5, 6] (fun s i => ∃ k : Nat, k ≤ m ∧ i = .int .i64 k ∧ s = .int .i64 (seenTo os k : Int) ∧ (∀ j, j < k → okAt m os j)) (fun _ i => m - (intOf i).toNat)
    case atStart => exact ⟨0, by omega, rfl, rfl, fun j hj => absurd hj (by omega)⟩
    case round =>
      obtain ⟨k, hk, rfl, rfl, hbef⟩ := hrel
      have HB := Lib.hid hbef
      have h64 : seenTo os k < 64 := Nat.lt_of_lt_of_le (seenTo_lt m os k hbef) (pow6 m hn)
      clear hbef
      by_cases hlt : k < m
      · obtain ⟨b, off, rfl, hc⟩ := HJ.out.at_ hlt
        have hok : Hid (okAt m os k ↔ 0 ≤ os.getD k 0 ∧ os.getD k 0 < m ∧ (seenTo os k).testBit (os.getD k 0).toNat = false) := Iff.rfl
        have hst : Hid (seenTo os (k + 1) = seenTo os k ||| 2 ^ (os.getD k 0).toNat) := rfl
        have hbad : Hid (¬ okAt m os k → ordOk m os = false) := fun h => ordOk_bad m os k (by rw [hol.out]; exact hlt) h
        generalize os.getD k 0 = x at *
        by_cases h1 : x < 0
        · have hfin := hbad.out (by rw [hok.out]; omega)
          have HF := Lib.hid hfin
          clear hfin
          go_wp2
          go_ret
          exact ⟨ret_bool HF.out.symm, rfl⟩
        by_cases h2 : (m : Int) ≤ x
        · have hfin := hbad.out (by rw [hok.out]; omega)
          have HF := Lib.hid hfin
          clear hfin
          go_wp2
          go_ret
          exact ⟨ret_bool HF.out.symm, rfl⟩
        obtain ⟨i, rfl⟩ := nat_of x (by omega)
        have hi : i < 6 := by omega
        simp only [Int.toNat_natCast] at hok hst
        obtain ⟨N, hN, hshl⟩ := shl_one i (by omega)
        have hN2 : N ≤ 64 := by rw [hN]; exact pow6 i (by omega)
        have hbt := shr_bit (seenTo os k) i
        have hba := bit_add _ h64 i hi
        rw [← hN] at hst hba
        cases hb : (seenTo os k).testBit i
        · rw [hb] at hbt
          have hokk : Hid (okAt m os k) := by rw [hok.out]; exact ⟨by omega, by omega, hb⟩
          rw [← hba hb] at hst
          clear hba hN hb
          go_wp2
          go_round
          case rel => exact ⟨k + 1, by omega, by go_num, by rw [hst.out]; go_num, fun j hj => by
            rcases Nat.lt_or_ge j k with h | h
            · exact HB.out j h
            · obtain rfl : j = k := by omega
              exact hokk.out⟩
          case measure => simp [intOf]; omega
        · rw [hb] at hbt
          have hfin := hbad.out (by rw [hok.out, hb]; simp)
          have HF := Lib.hid hfin
          clear hN hb hfin hba
          go_wp2
          go_ret
          exact ⟨ret_bool HF.out.symm, rfl⟩
      · obtain rfl : k = m := by omega
        have hfin : Hid (ordOk k os = true) := by
          unfold ordOk
          simp only [Hid, hol.out, decide_true, Bool.true_and, List.all_eq_true, List.mem_range, decide_eq_true_eq]
          exact HB.out
        go_wp2
        go_ret
        exact ⟨ret_bool hfin.out.symm, rfl⟩
  · have hq : ((m : Int) != (n : Int)) = true := by simp; omega
    have hfin : Hid (ordOk n os = false) := by simp [Hid, ordOk, hol.out, hm]
    go_enter Try.func42, Try.ntmps42
    go_wp2
    go_ret
    exact ⟨ret_bool hfin.out.symm, rfl⟩

/-- (*costs).weighed$1 -/
theorem f87_any (x : Int) (w : World) : Calls Try.prog 87 #[.int .i64 x] w fun e w' => e = .returned (.bool (outW x)) ∧ w = w' := by
  unfold outW
  go_enter Try.func87, Try.ntmps87
  go_wp2
  all_goals go_ret
  all_goals simp_all
theorem enter87 (args : Array Value) (w : World) : (callFunc 87 args).run Try.prog w = .ok (.enter 87 args) w := by
  simp [go_sem]

/-- (*costs).weighed -/
theorem f65_any (p : Nat) (A B : Option Addr) (n len c m d : Nat) (ws : List Int) (w : World) (hp : Costs w p n A len c) (ho : Ints w B m ws) :
    Calls Try.prog 65 #[.pointer (some ⟨p, 0, none⟩), .slice B m d] w fun e w' => e = .returned (.bool (wOk n ws)) ∧ w = w' := by
  have k84 : Hid (Calls Try.prog 84 #[.slice B m d, .func (.func 87) #[] #[]] w fun e w' => e = .returned (.bool (ws.any outW)) ∧ w = w') :=
    f84_any B m d ws 87 #[] outW w ho enter87 fun k _ => f87_any _ _
  have hol := Lib.hid ho.len
  have hfin : Hid (wOk n ws = (decide (m = n) && !ws.any outW)) := by unfold wOk; rw [hol.out]; rfl
  obtain ⟨hp0, hp1⟩ := hp
  by_cases hm : m = n
  · subst hm
    go_enter Try.func65, Try.ntmps65
    go_wp2_with fail
    refine k84.out.mono ?_
    rintro e w' ⟨rfl, rfl⟩
    go_wp2
    go_ret
    exact ⟨ret_bool (by rw [hfin.out]; simp), rfl⟩
  · have hq : ((m : Int) == (n : Int)) = false := by simp; omega
    have hf2 : Hid (wOk n ws = false) := by rw [hfin.out]; simp [Hid, hm]
    clear hm
    go_enter Try.func65, Try.ntmps65
    go_wp2
    go_ret
    exact ⟨ret_bool hf2.out.symm, rfl⟩

set_option maxHeartbeats 1000000 in
/-- slices.Max -/
theorem f66_any (A : Option Addr) (len c : Nat) (xs : List Int) (w : World) (hs : Ints w A len xs) (hp : 0 < len) :
    Calls Try.prog 66 #[.slice A len c] w fun e w' => e = .returned (.int .i64 (high xs)) ∧ w = w' := by
  have hfin : Hid (high xs = highTo xs len) := by unfold high; rw [hs.len]; rfl
  have h1 : Hid (highTo xs 1 = xs.getD 0 0) := by simp [Hid, highTo, mx]
  have hsm := hs.small
  obtain ⟨b, off, rfl, hc⟩ := hs.ad hp
  have HC := Lib.hid hc
  have hc0 := hc 0 hp
  simp only [Nat.add_zero] at hc0
  clear hc
  go_enter Try.func66, Try.ntmps66
  go_wp2
  go_loop [3, 4] (fun t i => ∃ k : Nat, 1 ≤ k ∧ k ≤ len ∧ i = .int .i64 k ∧ t = .int .i64 (highTo xs k)) (fun _ i => len - (intOf i).toNat)
  case atStart => exact ⟨1, by omega, by omega, rfl, by rw [h1.out]; rfl⟩
  case round =>
    obtain ⟨k, hk1, hk, rfl, rfl⟩ := hrel
    by_cases hlt : k < len
    · have hck := HC.out k hlt
      go_wp2
      go_round
      case rel => exact ⟨k + 1, by omega, by omega, by go_num, rfl⟩
      case measure => simp [intOf]; omega
    · obtain rfl : k = len := by omega
      go_wp2
      go_ret
      exact ⟨ret_int hfin.out.symm, rfl⟩
end Go.Proofs.Ytpehhbiodmgjeaa
