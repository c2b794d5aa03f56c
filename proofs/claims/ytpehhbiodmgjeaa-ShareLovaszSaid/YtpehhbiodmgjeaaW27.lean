/- Walks: Proves (both), ShareFair. -/
import Derived.Test.YtpehhbiodmgjeaaW26
import Derived.Test.YtpehhbiodmgjeaaW23
namespace Go.Proofs.Ytpehhbiodmgjeaa
open Go.RowKit

set_option maxHeartbeats 4000000 in
/-- dibberref08.Proves -/
theorem f32_any (A B : Option Addr) (n : Int) (len c m d : Nat) (xs l : List Int) (w : World) (hs : Ints w A len xs) (ho : Ints w B m l) :
    Calls Try.prog 32 #[.int .i64 n, .slice A len c, .slice B m d] w fun e w' => e = .returned (.tuple #[.int .i64 (provesS n xs l), .bool (provesB n xs l), .int .i64 (provesErr n xs l)]) ∧ Below w.heap.size w w' := by
  have k46 := Lib.hid (f46_any A n len c xs w hs)
  by_cases h : asked n xs = 0
  · obtain ⟨hok, hT⟩ := asked_zero h
    obtain ⟨n', rfl, hn1, h6, hln, hbd, h0⟩ := costOk_facts hok
    rw [h] at k46
    have HS := Lib.hid hs
    have HO := Lib.hid ho
    have k43 : Hid (∀ W, Ints W B m l → Calls Try.prog 43 #[.int .i64 (n' : Int), .slice B m d] W fun e w' => e = .returned (.bool (shOk n' l)) ∧ W = w') := fun W hW => f43_any B n' m d l W hW h6
    cases hsh : shOk n' l
    · have h2 : provesB n' xs l = false := by unfold provesB; rw [h, Int.toNat_natCast, hsh]; rfl
      have h1 : provesS n' xs l = 0 := by unfold provesS; rw [h2]; rfl
      have h3 : provesErr n' xs l = 2 := by unfold provesErr; rw [if_pos h, Int.toNat_natCast, hsh]; rfl
      rw [h1, h2, h3]
      rw [hsh] at k43
      clear h hok hT hsh hbd h0 hs ho hln h1 h2 h3
      go_enter Try.func32, Try.ntmps32
      go_wp2_with fail
      refine k46.out.mono ?_
      rintro e w1 ⟨rfl, hd⟩
      have B1 := Lib.hid (below_draw hd)
      clear hd
      go_wp2_with fail
      refine (k43.out _ (HO.out.below B1.out)).mono ?_
      rintro e w' ⟨rfl, rfl⟩
      go_wp2
      refine bodyPost_ret (results_tmp3 rfl _ _ _) rfl ?_
      exact ⟨rfl, B1.out⟩
    · obtain ⟨hl1, hl2⟩ := shOk_facts hsh
      have h2 : provesB n' xs l = isFair xs l := by unfold provesB; rw [h, Int.toNat_natCast, hsh]; rfl
      have h3 : provesErr n' xs l = 0 := by unfold provesErr; rw [if_pos h, Int.toNat_natCast, hsh]; rfl
      have h1 : provesS n' xs l = if isFair xs l then belowS l else 0 := by unfold provesS; rw [h2]
      rw [h1, h2, h3]
      rw [hsh] at k43
      have hm6 : m ≤ 6 := by rw [← ho.len]; omega
      have hl64 : len ≤ 64 := by rw [← hs.len, hln]; exact pow6 n' h6
      have hpos : 0 < len := by rw [← hs.len, hln]; exact Nat.pow_pos (by omega)
      have k63 : Hid (∀ W, Ints W A len xs → Ints W B m l → _) := fun W h1 h2 => f63_any A B len c m d xs l W h1 h2 hm6 hl64 hpos hl2
      have k64 : Hid (∀ W, Ints W B m l → _) := fun W h => f64_any B m d l W h hm6 hl2
      clear h hok hT hsh hbd h0 hs ho hln h1 h2 h3 hl1 hl2
      cases hF : isFair xs l
      all_goals
        rw [hF] at k63
        clear hF
        go_enter Try.func32, Try.ntmps32
        go_wp2_with fail
        refine k46.out.mono ?_
        rintro e w1 ⟨rfl, hd⟩
        have B1 := Lib.hid (below_draw hd)
        clear hd
        have I1 := Lib.hid (HS.out.below B1.out)
        have O1 := Lib.hid (HO.out.below B1.out)
        go_wp2_with fail
        refine (k43.out _ O1.out).mono ?_
        rintro e w' ⟨rfl, rfl⟩
        go_wp2_with fail
        refine (k63.out _ I1.out O1.out).mono ?_
        rintro e w2 ⟨rfl, hd⟩
        have B2 := Lib.hid (below_step B1.out (below_draw hd))
        have O2 := Lib.hid (O1.out.below (below_draw hd))
        clear hd
        go_wp2_with fail
      · refine bodyPost_ret (results_tmp3 rfl _ _ _) rfl ?_
        exact ⟨rfl, B2.out⟩
      · refine (k64.out _ O2.out).mono ?_
        rintro e w' ⟨rfl, rfl⟩
        go_wp2_with fail
        refine bodyPost_ret (results_tmp3 rfl _ _ _) rfl ?_
        exact ⟨rfl, B2.out⟩
  · have h2 : provesB n xs l = false := by unfold provesB; rw [decide_eq_false h]; rfl
    have h1 : provesS n xs l = 0 := by unfold provesS; rw [h2]; rfl
    have h3 : provesErr n xs l = asked n xs := by unfold provesErr; rw [if_neg h]
    have hq : (asked n xs != 0) = true := by simpa using h
    rw [h1, h2, h3]
    generalize asked n xs = er at *
    clear h h1 h2 h3
    go_enter Try.func32, Try.ntmps32
    go_wp2_with fail
    refine k46.out.mono ?_
    rintro e w1 ⟨rfl, hd⟩
    have B1 := Lib.hid (below_draw hd)
    clear hd
    go_wp2
    refine bodyPost_ret (results_tmp3 rfl _ _ _) rfl ?_
    exact ⟨rfl, B1.out⟩

set_option maxHeartbeats 4000000 in
/-- share.Proves -/
theorem f28_any (A B : Option Addr) (n : Int) (len c m d : Nat) (xs l : List Int) (w : World) (hs : Ints w A len xs) (ho : Ints w B m l) :
    Calls Try.prog 28 #[.int .i64 n, .slice A len c, .slice B m d] w fun e w' => e = .returned (.tuple #[.int .i64 (provesS n xs l), .bool (provesB n xs l), .int .i64 (provesErr n xs l)]) ∧ Below w.heap.size w w' := by
  by_cases h : asked n xs = 0
  · obtain ⟨hok, hT⟩ := asked_zero h
    obtain ⟨n', rfl, hn1, h6, hln, hbd, h0⟩ := costOk_facts hok
    have k44 := Lib.hid (f44_yes A n' len c xs w hs h)
    have HO := Lib.hid ho
    have k59 : Hid (∀ W p, Costs W p n' A len c → Ints W B m l → _) := fun W p hC hW => f59_any p A B n' len c m d l W hC hW
    cases hsh : shOk n' l
    · have h2 : provesB n' xs l = false := by unfold provesB; rw [h, Int.toNat_natCast, hsh]; rfl
      have h1 : provesS n' xs l = 0 := by unfold provesS; rw [h2]; rfl
      have h3 : provesErr n' xs l = 2 := by unfold provesErr; rw [if_pos h, Int.toNat_natCast, hsh]; rfl
      rw [h1, h2, h3]
      rw [hsh] at k59
      clear h hok hT hsh hbd h0 hs ho hln h1 h2 h3
      go_enter Try.func28, Try.ntmps28
      go_wp2_with fail
      refine k44.out.mono ?_
      rintro e w1 ⟨p, rfl, hc, hI, hb, _⟩
      have B1 := Lib.hid hb
      have C1 := Lib.hid hc
      clear hb hc hI
      go_wp2_with fail
      refine (k59.out _ _ C1.out (HO.out.below B1.out)).mono ?_
      rintro e w2 ⟨rfl, hb⟩
      have B2 := Lib.hid (below_step B1.out hb)
      clear hb
      go_wp2
      refine bodyPost_ret (results_tmp3 rfl _ _ _) rfl ?_
      exact ⟨rfl, B2.out⟩
    · obtain ⟨hl1, hl2⟩ := shOk_facts hsh
      have h2 : provesB n' xs l = isFair xs l := by unfold provesB; rw [h, Int.toNat_natCast, hsh]; rfl
      have h3 : provesErr n' xs l = 0 := by unfold provesErr; rw [if_pos h, Int.toNat_natCast, hsh]; rfl
      have h1 : provesS n' xs l = if isFair xs l then belowS l else 0 := by unfold provesS; rw [h2]
      rw [h1, h2, h3]
      rw [hsh] at k59
      have hm6 : m ≤ 6 := by rw [← ho.len]; omega
      have hl64 : len ≤ 64 := by rw [← hs.len, hln]; exact pow6 n' h6
      have hpos : 0 < len := by rw [← hs.len, hln]; exact Nat.pow_pos (by omega)
      have HLL : Hid (2 ^ n' - 1 = len - 1) := by rw [← hs.len, hln]; rfl
      have HB2 := Lib.hid hl2
      have hF : Hid (isFair xs l = (decide (overI xs l < 0) && (pay l (len - 1) == xs.getD (len - 1) 0))) := by unfold isFair; rw [hs.len]; rfl
      have k60 : Hid (∀ W p, Costs W p n' A len c → Ints W A len xs → Ints W B m l → _) := fun W p h1 h2 h3 => f60_any p A B n' len c m d xs l W h1 h2 h3 hm6 hl64 hl2
      have k62 : Hid (∀ W, Ints W B m l → _) := fun W h => f62_any B m d l W h hm6 hl2
      have hM : len - 1 < len := by omega
      generalize len - 1 = M at *
      generalize overI xs l = ov at *
      generalize isFair xs l = F at *
      clear h hok hT hsh hbd h0 hs ho hln h1 h2 h3 hl1 hl2
      have hcase : (F = false ∧ 0 ≤ ov) ∨ (F = false ∧ ov < 0 ∧ (pay l M != xs.getD M 0) = true) ∨ (F = true ∧ ov < 0 ∧ (pay l M != xs.getD M 0) = false) := by
        rw [hF.out]
        by_cases h1 : ov < 0
        · by_cases h2 : pay l M = xs.getD M 0
          · exact .inr (.inr ⟨by rw [h2]; simp [h1], h1, by rw [h2]; simp⟩)
          · exact .inr (.inl ⟨by rw [beq_eq_false_iff_ne.2 h2]; simp, h1, by rw [bne_iff_ne]; exact h2⟩)
        · exact .inl ⟨by simp [h1], by omega⟩
      clear hF
      rcases hcase with ⟨rfl, ho1⟩ | ⟨rfl, ho1, ho2⟩ | ⟨rfl, ho1, ho2⟩
      all_goals
        have K48 : Hid (∀ W p, Costs W p n' A len c → _) := fun W p hC => f48_any p n' A len c W hC h6
        rw [HLL.out] at K48
        have K61 : Hid (∀ W, Ints W B m l → _) := fun W hW => f61_any B m d M l W hW hm6 (by omega) HB2.out
        generalize hx : xs.getD M 0 = x at *
        generalize hy : pay l M = y at *
        have HX := Lib.hid hx
        clear hx hy
        go_enter Try.func28, Try.ntmps28
        go_wp2_with fail
        refine k44.out.mono ?_
        rintro e w1 ⟨p, rfl, hc, hI, hb, _⟩
        have B1 := Lib.hid hb
        have C1 := Lib.hid hc
        have I1 := Lib.hid hI
        have O1 := Lib.hid (HO.out.below B1.out)
        clear hb hc hI
        go_wp2_with fail
        refine (k59.out _ _ C1.out O1.out).mono ?_
        rintro e w2 ⟨rfl, hb⟩
        have B2 := Lib.hid (below_step B1.out hb)
        have C2 := Lib.hid (C1.out.below hb)
        have I2 := Lib.hid (I1.out.below hb)
        have O2 := Lib.hid (O1.out.below hb)
        clear hb
        have L48 : Hid (∀ a, _) := fun a => K48.out (w2.drewN a) p (C2.out.drewN a)
        have L61 : Hid (∀ a, _) := fun a => K61.out (w2.drewN a) (O2.out.drewN a)
        have L60 : Hid (∀ a, _) := fun a => k60.out (w2.drewN a) p (C2.out.drewN a) (I2.out.drewN a) (O2.out.drewN a)
        have hc2 := C2.out.2
        obtain ⟨bA, oA, rfl, hca⟩ := I2.out.ad hpos
        have hcx := hca M hM
        rw [HX.out] at hcx
        clear hca K48 K61 k60
        go_wp2_with fail
        go_quiet ((first | (go_at_call 48; exact quietly (L48.out _)) | (go_at_call 61; exact quietly (L61.out _)) | (go_at_call 60; exact quietly_m (L60.out _))))
        go_wp2_with fail
      · refine bodyPost_ret (results_tmp3 rfl _ _ _) rfl ?_
        exact ⟨rfl, below_drewN B2.out _⟩
      · refine bodyPost_ret (results_tmp3 rfl _ _ _) rfl ?_
        exact ⟨rfl, below_drewN B2.out _⟩
      · refine (k62.out _ (O2.out.drewN _)).mono ?_
        rintro e w' ⟨rfl, rfl⟩
        go_wp2_with fail
        refine bodyPost_ret (results_tmp3 rfl _ _ _) rfl ?_
        exact ⟨rfl, below_drewN B2.out _⟩
  · have h2 : provesB n xs l = false := by unfold provesB; rw [decide_eq_false h]; rfl
    have h1 : provesS n xs l = 0 := by unfold provesS; rw [h2]; rfl
    have h3 : provesErr n xs l = asked n xs := by unfold provesErr; rw [if_neg h]
    have k44 := Lib.hid (f44_no A n len c xs w hs h)
    have hq : (asked n xs != 0) = true := by simpa using h
    rw [h1, h2, h3]
    generalize asked n xs = er at *
    clear h h1 h2 h3
    go_enter Try.func28, Try.ntmps28
    go_wp2_with fail
    refine k44.out.mono ?_
    rintro e w1 ⟨rfl, hb⟩
    have B1 := Lib.hid hb
    clear hb
    go_wp2
    refine bodyPost_ret (results_tmp3 rfl _ _ _) rfl ?_
    exact ⟨rfl, B1.out⟩

set_option maxHeartbeats 4000000 in
/-- dibberlaw08.ShareFair -/
theorem f8_any (n : Int) (A B : Option Addr) (len c m d : Nat) (xs ys : List Int) (w : World) (hs : Came w A len xs) (ho : Came w B m ys) :
    Calls Try.prog 8 #[.int .i64 n, .slice A len c, .slice B m d] w fun e w' => e = .returned (.bool true) ∧ Below w.heap.size w w' := by
  have k14 := Lib.hid (c14_2 A B len c m d w hs.len ho.len)
  have b0 := Lib.hid (below_alloc w (.cells #[.slice A len c, .slice B m d] 22))
  by_cases hl : len ≤ 100 ∧ m ≤ 100
  · have I0 := Lib.hid ((hs.2 hl.1).below b0.out)
    have J0 := Lib.hid ((ho.2 hl.2).below b0.out)
    rw [decide_eq_true hl.1, decide_eq_true hl.2] at k14
    clear hs ho hl
    go_enter Try.func8, Try.ntmps8
    go_wp2_with fail
    refine k14.out.mono ?_
    rintro e w' ⟨rfl, rfl⟩
    go_wp2_with fail
    refine (f30_any A B n len c m d xs ys _ I0.out J0.out).mono ?_
    rintro e w1 ⟨rfl, hb⟩
    have B1 := Lib.hid (below_step b0.out hb)
    have I1 := Lib.hid (I0.out.below hb)
    have J1 := Lib.hid (J0.out.below hb)
    clear hb
    go_wp2_with fail
    refine (f31_any A B n len c m d xs ys _ I1.out J1.out).mono ?_
    rintro e w2 ⟨rfl, hb⟩
    have B2 := Lib.hid (below_step B1.out hb)
    have I2 := Lib.hid (I1.out.below hb)
    have J2 := Lib.hid (J1.out.below hb)
    clear hb
    go_wp2_with fail
    refine (f28_any A B n len c m d xs ys _ I2.out J2.out).mono ?_
    rintro e w3 ⟨rfl, hb⟩
    have B3 := Lib.hid (below_step B2.out hb)
    have I3 := Lib.hid (I2.out.below hb)
    have J3 := Lib.hid (J2.out.below hb)
    clear hb
    go_wp2_with fail
    refine (f32_any A B n len c m d xs ys _ I3.out J3.out).mono ?_
    rintro e w4 ⟨rfl, hb⟩
    have B4 := Lib.hid (below_step B3.out hb)
    clear hb
    go_wp2_with fail
    refine (f15_any _).mono ?_
    rintro e w5 ⟨rfl, hb⟩
    have B5 := Lib.hid (below_step B4.out hb)
    clear hb
    go_wp2_with fail
    go_ret
    exact ⟨rfl, B5.out⟩
  · have hf : (decide (len ≤ 100) && decide (m ≤ 100)) = false := by
      rw [Bool.eq_false_iff]
      simpa using hl
    rw [hf] at k14
    clear hs ho hl hf
    go_enter Try.func8, Try.ntmps8
    go_wp2_with fail
    refine k14.out.mono ?_
    rintro e w' ⟨rfl, rfl⟩
    go_wp2_with fail
    refine (f15_any _).mono ?_
    rintro e w6 ⟨rfl, hb6⟩
    have B6 := Lib.hid (below_step b0.out hb6)
    clear hb6
    go_wp2_with fail
    go_ret
    exact ⟨rfl, B6.out⟩
end Go.Proofs.Ytpehhbiodmgjeaa
