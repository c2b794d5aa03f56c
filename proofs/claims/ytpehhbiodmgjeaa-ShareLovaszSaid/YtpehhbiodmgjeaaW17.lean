/- Walk: ShareLattice. -/
import Derived.Test.YtpehhbiodmgjeaaW16
import Derived.Test.YtpehhbiodmgjeaaPlain5
namespace Go.Proofs.Ytpehhbiodmgjeaa
open Go.RowKit

theorem u8_mod (a : Int) (len : Nat) (h : 0 ≤ a ∧ a ≤ 255) (hp : 0 < len) : ∃ x : Nat, x < len ∧ a.tmod (len : Int) = (x : Int) ∧ a % (len : Int) = (x : Int) := by
  refine ⟨(a % (len : Int)).toNat, ?_, ?_, ?_⟩
  · have h1 := Int.emod_nonneg a (b := (len : Int)) (by omega)
    have h2 := Int.emod_lt_of_pos a (b := (len : Int)) (by omega)
    omega
  · rw [Int.tmod_eq_emod_of_nonneg h.1]
    have h1 := Int.emod_nonneg a (b := (len : Int)) (by omega)
    omega
  · have h1 := Int.emod_nonneg a (b := (len : Int)) (by omega)
    omega

set_option maxRecDepth 100000 in
set_option maxHeartbeats 4000000 in
/-- dibberlaw08.ShareLattice -/
theorem f4_any (n : Int) (A : Option Addr) (len c : Nat) (xs : List Int) (a b : Int) (w : World) (hs : Came w A len xs) (ha : 0 ≤ a ∧ a ≤ 255) (hb : 0 ≤ b ∧ b ≤ 255) :
    Calls Try.prog 4 #[.int .i64 n, .slice A len c, .int .u8 a, .int .u8 b] w fun e w' => e = .returned (.bool true) ∧ Below w.heap.size w w' := by
  have k14 := Lib.hid (c14_1 A len c w hs.len)
  have b0 := Lib.hid (below_alloc w (.cells #[.slice A len c] 22))
  by_cases hl : len ≤ 100
  · have hI := Lib.hid ((hs.2 hl).below b0.out)
    rw [decide_eq_true hl] at k14
    have k16 : Hid (∀ w, Ints w A len xs → _) := fun w h => f16_any A n len c xs w h
    have k21 : Hid (∀ w, Ints w A len xs → _) := fun w h => f21_any A n len c xs w h
    by_cases h : asked n xs = 0
    · have hsu : subm n xs = true := by rw [subm_asked]; exact decide_eq_true h
      rw [hsu] at k21
      obtain ⟨hok, hT⟩ := asked_zero h
      obtain ⟨m, rfl, h1, h6, hln, hbd, h0⟩ := costOk_facts hok
      have e1 : leastA m xs = low xs := by unfold leastA; rw [if_pos h]
      have e2 : leastB m xs = small xs := by unfold leastB; rw [if_pos h]
      have e3 : leastC m xs = large xs := by unfold leastC; rw [if_pos h]
      rw [e1, e2, e3, h] at k16
      have hlx := (hs.2 hl).len
      have hpos : 0 < xs.length := by rw [hln]; exact Nat.pow_pos (by omega)
      have hsub := brkT_sub hT
      have s1 := small_low hsub h6 hln
      have s2 := large_low hsub hln
      have s3 := small_large hsub h6 hln
      have s4 := small_lt xs hpos
      have s5 := large_lt hln
      have HP : Hid (∀ x, x < xs.length → xs.getD x 0 = low xs → x &&& small xs = small xs ∧ x ||| large xs = large xs) := fun x h1 h2 => ⟨small_part hsub h6 hln h1 h2, large_part hsub hln h1 h2⟩
      have HL : Hid (∀ x, x < xs.length → low xs ≤ xs.getD x 0) := fun x h => low_le xs x h
      have HQ : Hid (∀ x y, x < xs.length → y < xs.length → xs.getD x 0 = low xs → xs.getD y 0 = low xs → xs.getD (x ||| y) 0 = low xs ∧ xs.getD (x &&& y) 0 = low xs) := fun x y h1 h2 h3 h4 => lat_or hsub hln h1 h2 h3 h4
      have HO : Hid (∀ x y, x < xs.length → y < xs.length → x ||| y < xs.length ∧ x &&& y < xs.length) := fun x y h1 h2 => ⟨by rw [hln] at *; exact Nat.or_lt_two_pow h1 h2, Nat.lt_of_le_of_lt Nat.and_le_left h1⟩
      clear e1 e2 e3 h hok hT hln h0 hbd hsub hsu
      generalize low xs = lo at *
      generalize small xs = S at *
      generalize large xs = L at *
      rw [hlx] at hpos s4 s5 HP HL HQ HO
      have hlb := hs.len
      obtain ⟨x, hx, hx1, hx2⟩ := u8_mod a len ha hpos
      obtain ⟨y, hy, hy1, hy2⟩ := u8_mod b len hb hpos
      obtain ⟨bA, off, rfl, _⟩ := hI.out.ad hpos
      have HC : Hid (∀ W, Ints W (some ⟨bA, off, none⟩) len xs → ∀ j, j < len → W.cell? ⟨bA, off + j, none⟩ = some (.int .i64 (xs.getD j 0))) := fun W hW j hj => by
        obtain ⟨b2, off2, e, hc⟩ := hW.ad hpos
        cases e
        exact hc j hj
      have g1 := bits_and_nat S L (by omega) (by omega)
      rw [s3] at g1
      have S1 := Lib.hid s1
      have S2 := Lib.hid s2
      clear s1 s2 s3 hs hlx
      go_enter Try.func4, Try.ntmps4
      go_wp2_with fail
      refine k14.out.mono ?_
      rintro e w' ⟨rfl, rfl⟩
      go_wp2_with fail
      refine (k16.out _ hI.out).mono ?_
      rintro e w1 ⟨rfl, hb1⟩
      have I1 := Lib.hid (hI.out.below hb1)
      have B1 := Lib.hid (below_step b0.out hb1)
      clear hb1
      go_wp2_with fail
      refine (k21.out _ I1.out).mono ?_
      rintro e w2 ⟨rfl, hd2⟩
      have I2 := Lib.hid (I1.out.below (below_draw hd2))
      have B2 := Lib.hid (below_step B1.out (below_draw hd2))
      clear hd2
      have c1 := HC.out w2 I2.out S s4
      have c2 := HC.out w2 I2.out L s5
      rw [S1.out] at c1
      rw [S2.out] at c2
      go_wp2_with fail
      go_quiet (fail)
      rename_i nq
      have I3 := Lib.hid (I2.out.drewN nq)
      have B3 := Lib.hid (below_drewN B2.out nq)
      have c3 := HC.out _ I3.out x hx
      have c4 := HC.out _ I3.out y hy
      have l3 := HL.out x hx
      have p3 := Lib.hid (HP.out x hx)
      have q3 := Lib.hid (HQ.out x y hx hy)
      obtain ⟨o1, o2⟩ := HO.out x y hx hy
      have g3 := bits_or_nat x y (by omega) (by omega)
      have g4 := bits_and_nat x y (by omega) (by omega)
      have g5 := bits_and_nat x S (by omega) (by omega)
      have g6 := bits_or_nat x L (by omega) (by omega)
      have c5 := HC.out _ I3.out (x ||| y) o1
      have c6 := HC.out _ I3.out (x &&& y) o2
      generalize xs.getD x 0 = vx at *
      generalize xs.getD y 0 = vy at *
      generalize xs.getD (x ||| y) 0 = vo at *
      generalize xs.getD (x &&& y) 0 = va at *
      clear hx1 hx2 hy1 hy2 g1 c1 c2
      by_cases ex : vx = lo
      · obtain ⟨p4, p5⟩ := p3.out ex
        rw [p4] at g5
        rw [p5] at g6
        subst ex
        by_cases ey : vy = vx
        · obtain ⟨q4, q5⟩ := q3.out rfl ey
          subst ey
          subst q4
          subst q5
          clear p4 p5 p3 q3
          go_wp2_with fail
          refine (f15_any _).mono ?_
          rintro e w6 ⟨rfl, hb6⟩
          have B6 := Lib.hid (below_step B3.out hb6)
          clear hb6
          go_wp2_with fail
          go_ret
          exact ⟨rfl, B6.out⟩
        · have t1 : (vy != vx) = true := by simpa using ey
          clear p4 p5 p3 q3 ey
          go_wp2_with fail
          refine (f15_any _).mono ?_
          rintro e w6 ⟨rfl, hb6⟩
          have B6 := Lib.hid (below_step B3.out hb6)
          clear hb6
          go_wp2_with fail
          go_ret
          exact ⟨rfl, B6.out⟩
      · have t1 : (vx != lo) = true := by simpa using ex
        have t2 : (vx == lo) = false := by simpa using ex
        clear p3 q3 ex
        go_wp2_with fail
        refine (f15_any _).mono ?_
        rintro e w6 ⟨rfl, hb6⟩
        have B6 := Lib.hid (below_step B3.out hb6)
        clear hb6
        go_wp2_with fail
        go_ret
        exact ⟨rfl, B6.out⟩
    · have e1 : leastA n xs = 0 := by unfold leastA; rw [if_neg h]
      have e2 : leastB n xs = 0 := by unfold leastB; rw [if_neg h]
      have e3 : leastC n xs = 0 := by unfold leastC; rw [if_neg h]
      rw [e1, e2, e3] at k16
      have hq : (asked n xs != 0) = true := by simpa using h
      generalize asked n xs = er at *
      clear hs hl h
      go_enter Try.func4, Try.ntmps4
      go_wp2_with fail
      refine k14.out.mono ?_
      rintro e w' ⟨rfl, rfl⟩
      go_wp2_with fail
      refine (k16.out _ hI.out).mono ?_
      rintro e w1 ⟨rfl, hb1⟩
      have B1 := Lib.hid (below_step b0.out hb1)
      clear hb1
      go_wp2_with fail
      refine (f15_any _).mono ?_
      rintro e w6 ⟨rfl, hb6⟩
      have B6 := Lib.hid (below_step B1.out hb6)
      clear hb6
      go_wp2_with fail
      go_ret
      exact ⟨rfl, B6.out⟩
  · rw [decide_eq_false hl] at k14
    clear hs hl
    go_enter Try.func4, Try.ntmps4
    go_wp2_with fail
    refine k14.out.mono ?_
    rintro e w' ⟨rfl, rfl⟩
    go_wp2_with fail
    refine (f15_any _).mono ?_
    rintro e w6 ⟨rfl, hb6⟩
    have B6 := Lib.hid (below_step b0.out hb6)
    clear hb6
    go_wp2_with fail
    go_ret
    exact ⟨rfl, B6.out⟩
end Go.Proofs.Ytpehhbiodmgjeaa
