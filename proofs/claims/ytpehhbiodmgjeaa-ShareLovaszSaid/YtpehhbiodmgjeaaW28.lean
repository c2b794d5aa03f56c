/- Walks: before, ShareEdmonds. -/
import Derived.Test.YtpehhbiodmgjeaaW27
import Derived.Test.YtpehhbiodmgjeaaW17
import Derived.Test.YtpehhbiodmgjeaaPlain9
namespace Go.Proofs.Ytpehhbiodmgjeaa
open Go.RowKit

theorem bfr_at {l p : List Int} (i : Nat) (h1 : i < l.length) (h2 : i < p.length) (hs : ∀ j, j < i → l.getD j 0 = p.getD j 0) (hne : l.getD i 0 ≠ p.getD i 0) : bfr l p = decide (l.getD i 0 < p.getD i 0) := by
  induction l generalizing p i with
  | nil => simp at h1
  | cons a t ih =>
    cases p with
    | nil => simp at h2
    | cons b bs =>
      cases i with
      | zero =>
        simp only [List.getD_cons_zero] at hne ⊢
        unfold bfr
        rw [if_neg hne]
      | succ i =>
        have h0 := hs 0 (by omega)
        simp only [List.getD_cons_zero] at h0
        simp only [List.getD_cons_succ] at hne ⊢
        unfold bfr
        rw [if_pos h0]
        exact ih i (by simpa using h1) (by simpa using h2) (fun j hj => by simpa using hs (j + 1) (by omega)) hne
theorem bfr_end {l p : List Int} (k : Nat) (hk : l.length ≤ k ∨ p.length ≤ k) (hs : ∀ j, j < k → l.getD j 0 = p.getD j 0) : bfr l p = false :=
  bfr_false fun i h1 h2 _ => by rw [hs i (by omega)]; omega

theorem drew3 (w : World) (a b c : Nat) : ((w.drewN a).drewN b).drewN c = w.drewN (a + b + c) := by rw [World.drewN_drewN, World.drewN_drewN, Nat.add_assoc]
set_option maxRecDepth 100000 in
set_option maxHeartbeats 2000000 in
/-- dibberlaw08.before -/
theorem f29_any (A B : Option Addr) (n c m d : Nat) (xs ys : List Int) (w : World) (hs : Ints w A n xs) (ho : Ints w B m ys) :
    Calls Try.prog 29 #[.slice A n c, .slice B m d] w fun e w' => e = .returned (.bool (bfr xs ys)) ∧ ∃ k, w' = w.drewN k := by
  have hsm := hs.small
  have hsm2 := ho.small
  have hl1 := Lib.hid hs.len
  have hl2 := Lib.hid ho.len
  have HS := Lib.hid hs
  have HO := Lib.hid ho
  clear hs ho
  go_enter Try.func29, Try.ntmps29
  go_wp2
  go_loopw [5] (fun i wr => ∃ k : Nat, k ≤ n ∧ k ≤ m ∧ i = .int .i64 k ∧ (∀ j, j < k → xs.getD j 0 = ys.getD j 0) ∧ ∃ q, wr = w.drewN q) (fun i _ => n - (intOf i).toNat)
  case atStart => exact ⟨0, by omega, by omega, rfl, fun j hj => absurd hj (by omega), 0, rfl⟩
  case round => as_aux_lemma =>
    obtain ⟨k, hk, hk2, rfl, hbef, q, rfl⟩ := hrel
    have HB := Lib.hid hbef
    clear hbef
    by_cases h1 : k < n
    · by_cases h2 : k < m
      · obtain ⟨b, off, rfl, hc⟩ := HS.out.at_ h1
        obtain ⟨b2, off2, rfl, hc2⟩ := HO.out.at_ h2
        have hat : Hid (xs.getD k 0 ≠ ys.getD k 0 → bfr xs ys = decide (xs.getD k 0 < ys.getD k 0)) := fun h => bfr_at k (by rw [hl1.out]; exact h1) (by rw [hl2.out]; exact h2) HB.out h
        generalize hu : xs.getD k 0 = u at *
        generalize hv : ys.getD k 0 = v at *
        have HU := Lib.hid hu
        have HV := Lib.hid hv
        clear hu hv
        by_cases he : u = v
        · have hq : (u != v) = false := by simpa using he
          have HE := Lib.hid he
          clear he
          go_wp2
          go_quiet (fail)
          go_wp2
          go_roundw
          case rel => exact ⟨k + 1, by omega, by omega, by go_num, fun j hj => by
            rcases Nat.lt_or_ge j k with h | h
            · exact HB.out j h
            · obtain rfl : j = k := by omega
              rw [HU.out, HV.out, HE.out], by first | exact ⟨_, rfl⟩ | exact ⟨_, World.drewN_drewN _ _ _⟩⟩
          case measure => simp [intOf]; omega
        · have hq : (u != v) = true := by simpa using he
          have HF := Lib.hid (hat.out he)
          clear he
          go_wp2
          go_quiet (fail)
          go_wp2
          go_quiet (fail)
          go_wp2
          go_ret
          exact ⟨ret_bool HF.out.symm, _, drew3 _ _ _ _⟩
      · have hf := Lib.hid (bfr_end (l := xs) (p := ys) k (.inr (by rw [hl2.out]; omega)) HB.out)
        go_wp2
        go_ret
        exact ⟨ret_bool hf.out.symm, q, rfl⟩
    · have hf := Lib.hid (bfr_end (l := xs) (p := ys) k (.inl (by rw [hl1.out]; omega)) HB.out)
      go_wp2
      go_ret
      exact ⟨ret_bool hf.out.symm, q, rfl⟩

theorem provesB_facts {n : Nat} {xs l : List Int} (h : provesB n xs l = true) : asked n xs = 0 ∧ shOk n l = true ∧ isFair xs l = true ∧ provesErr n xs l = 0 ∧ provesS n xs l = belowS l := by
  have h0 := h
  unfold provesB at h
  simp only [Bool.and_eq_true, decide_eq_true_eq, Int.toNat_natCast] at h
  obtain ⟨⟨h1, h2⟩, h3⟩ := h
  refine ⟨h1, h2, h3, ?_, ?_⟩
  · unfold provesErr; rw [if_pos h1, Int.toNat_natCast, h2]; rfl
  · unfold provesS; rw [h0]; rfl
theorem provesB_mk {n : Nat} {xs l : List Int} (h1 : asked n xs = 0) (h2 : shOk n l = true) (h3 : isFair xs l = true) : provesB n xs l = true := by
  unfold provesB; rw [h1, Int.toNat_natCast, h2, h3]; rfl

set_option maxRecDepth 100000 in
set_option maxHeartbeats 8000000 in
/-- dibberlaw08.ShareEdmonds -/
theorem f7_any (n : Int) (A B : Option Addr) (len c m d : Nat) (xs ys : List Int) (a : Int) (w : World) (hs : Came w A len xs) (ho : Came w B m ys) (ha : 0 ≤ a ∧ a ≤ 255) :
    Calls Try.prog 7 #[.int .i64 n, .slice A len c, .slice B m d, .int .u8 a] w fun e w' => e = .returned (.bool true) ∧ Below w.heap.size w w' := by
  have k14 := Lib.hid (c14_2 A B len c m d w hs.len ho.len)
  have b0 := Lib.hid (below_alloc w (.cells #[.slice A len c, .slice B m d] 22))
  by_cases hl : len ≤ 100 ∧ m ≤ 100
  · have I0 := Lib.hid ((hs.2 hl.1).below b0.out)
    have J0 := Lib.hid ((ho.2 hl.2).below b0.out)
    have HXL := Lib.hid (hs.2 hl.1).len
    have HYL := Lib.hid (ho.2 hl.2).len
    rw [decide_eq_true hl.1, decide_eq_true hl.2] at k14
    have k16 : Hid (∀ w, Ints w A len xs → _) := fun w h => f16_any A n len c xs w h
    have k18 : Hid (∀ w, Ints w A len xs → _) := fun w h => f18_any A n len c xs w h
    have k21 : Hid (∀ w, Ints w A len xs → _) := fun w h => f21_any A n len c xs w h
    have k28 : Hid (∀ w, Ints w A len xs → Ints w B m ys → _) := fun w h g => f28_any A B n len c m d xs ys w h g
    have hlb := hs.len
    obtain ⟨hl1, hl2⟩ := hl
    clear hs ho
    by_cases h : asked n xs = 0
    · have hsu : subm n xs = true := by rw [subm_asked]; exact decide_eq_true h
      rw [hsu] at k21
      obtain ⟨n, rfl, g⟩ := Good.of h
      have e1 : leastA n xs = low xs := by unfold leastA; rw [if_pos h]
      have e2 : leastB n xs = small xs := by unfold leastB; rw [if_pos h]
      have e3 : leastC n xs = large xs := by unfold leastC; rw [if_pos h]
      rw [e1, e2, e3, h] at k16
      have e4 : proofErr n xs = 0 := h
      have e5 : proofR n xs = proofL n xs := by unfold proofR; rw [if_pos h, Int.toNat_natCast]
      rw [e4, e5] at k18
      have hpB := provesB_mk h g.proof_sh g.proof_fair
      obtain ⟨_, _, _, hpE, hpS⟩ := provesB_facts hpB
      rw [g.proof_below] at hpS
      have k28p : Hid (∀ w A' k' c', Ints w A len xs → Ints w A' k' (proofL n xs) → Calls Try.prog 28 #[.int .i64 n, .slice A len c, .slice A' k' c'] w fun e w' => e = .returned (.tuple #[.int .i64 (low xs), .bool true, .int .i64 0]) ∧ Below w.heap.size w w') := fun w A' k' c' h1 h2 => by
        have := f28_any A A' n len c k' c' xs (proofL n xs) w h1 h2
        rw [hpB, hpE, hpS] at this
        exact this
      have hpos : 0 < len := by rw [← HXL.out]; exact g.pos
      obtain ⟨x, hx, hx1, hx2⟩ := u8_mod a len ha hpos
      have hxn : x < 2 ^ n := by rw [← g.len, HXL.out]; exact hx
      have HB1 : Hid (provesB n xs ys = true → provesErr n xs ys = 0 ∧ provesS n xs ys ≤ xs.getD x 0 ∧ provesS n xs ys ≤ low xs ∧ (provesS n xs ys = low xs → bfr ys (proofL n xs) = false)) := fun hb => by
        obtain ⟨_, p2, p3, p4, p5⟩ := provesB_facts hb
        rw [p5]
        exact ⟨p4, g.below_any p3 x hxn, g.below_low p3, fun he => g.proof_lex (shOk_facts p2).1 p3 he⟩
      have HB2 : Hid (provesB n xs ys = false → provesS n xs ys = 0) := fun hb => by unfold provesS; rw [hb]; rfl
      have HC : Hid (∀ W, Ints W A len xs → ∃ bA off, A = some ⟨bA, off, none⟩ ∧ W.cell? ⟨bA, off + x, none⟩ = some (.int .i64 (xs.getD x 0))) := fun W hW => hW.at_ hx
      clear h hsu e1 e2 e3 e4 e5 hpB hpE hpS hxn g
      generalize low xs = lo at *
      generalize proofL n xs = pl at *
      generalize provesErr n xs ys = er at *
      generalize provesB n xs ys = pb at *
      generalize provesS n xs ys = ps at *
      go_enter Try.func7, Try.ntmps7
      go_wp2_with fail
      refine k14.out.mono ?_
      rintro e w' ⟨rfl, rfl⟩
      go_wp2_with fail
      refine (k16.out _ I0.out).mono ?_
      rintro e w1 ⟨rfl, hb⟩
      have B1 := Lib.hid (below_step b0.out hb)
      have I1 := Lib.hid (I0.out.below hb)
      have J1 := Lib.hid (J0.out.below hb)
      clear hb
      go_wp2_with fail
      refine (k18.out _ I1.out).mono ?_
      rintro e w2 ⟨A2, k2, c2, rfl, hi, hb⟩
      have B2 := Lib.hid (below_step B1.out hb)
      have I2 := Lib.hid (I1.out.below hb)
      have J2 := Lib.hid (J1.out.below hb)
      have P2 := Lib.hid hi
      clear hb hi
      go_wp2_with fail
      refine (k21.out _ I2.out).mono ?_
      rintro e w3 ⟨rfl, hd⟩
      have hb := below_draw hd
      have B3 := Lib.hid (below_step B2.out hb)
      have I3 := Lib.hid (I2.out.below hb)
      have J3 := Lib.hid (J2.out.below hb)
      have P3 := Lib.hid (P2.out.below hb)
      clear hb hd
      go_wp2_with fail
      refine (k28p.out _ _ _ _ I3.out P3.out).mono ?_
      rintro e w4 ⟨rfl, hb⟩
      have B4 := Lib.hid (below_step B3.out hb)
      have I4 := Lib.hid (I3.out.below hb)
      have J4 := Lib.hid (J3.out.below hb)
      have P4 := Lib.hid (P3.out.below hb)
      clear hb
      go_wp2_with fail
      refine (k28.out _ I4.out J4.out).mono ?_
      rintro e w5 ⟨rfl, hb⟩
      have B5 := Lib.hid (below_step B4.out hb)
      have I5 := Lib.hid (I4.out.below hb)
      have J5 := Lib.hid (J4.out.below hb)
      have P5 := Lib.hid (P4.out.below hb)
      clear hb
      cases hpb : pb
      · have hps := HB2.out hpb
        subst hps
        clear hpb HB1 HB2
        by_cases her : er = 0
        · subst her
          go_wp2_with fail
          refine (f15_any _).mono ?_
          rintro e w6 ⟨rfl, hb⟩
          have B6 := Lib.hid (below_step B5.out hb)
          clear hb
          go_wp2_with fail
          go_ret
          exact ⟨rfl, B6.out⟩
        · have hq : (er != 0) = true := by simpa using her
          clear her
          go_wp2_with fail
          refine (f15_any _).mono ?_
          rintro e w6 ⟨rfl, hb⟩
          have B6 := Lib.hid (below_step B5.out hb)
          clear hb
          go_wp2_with fail
          go_ret
          exact ⟨rfl, B6.out⟩
      · obtain ⟨rfl, p2, p3, p4⟩ := HB1.out hpb
        have P6 := Lib.hid p4
        obtain ⟨bA, off, rfl, hcx⟩ := HC.out _ I5.out
        generalize xs.getD x 0 = vx at *
        clear hpb HB1 HB2 p4
        by_cases hlt : ps < lo
        · go_wp2_with fail
          refine (f15_any _).mono ?_
          rintro e w6 ⟨rfl, hb⟩
          have B6 := Lib.hid (below_step B5.out hb)
          clear hb
          go_wp2_with fail
          go_ret
          exact ⟨rfl, B6.out⟩
        · have hbf := P6.out (by omega)
          go_wp2_with fail
          refine (f29_any _ _ _ _ _ _ _ _ _ J5.out P5.out).mono ?_
          rintro e w6 ⟨rfl, hd⟩
          rw [hbf]
          have B6 := Lib.hid (below_step B5.out (below_draw hd))
          clear hd hbf
          go_wp2_with fail
          refine (f15_any _).mono ?_
          rintro e w7 ⟨rfl, hb⟩
          have B7 := Lib.hid (below_step B6.out hb)
          clear hb
          go_wp2_with fail
          go_ret
          exact ⟨rfl, B7.out⟩
    · have e1 : leastA n xs = 0 := by unfold leastA; rw [if_neg h]
      have e2 : leastB n xs = 0 := by unfold leastB; rw [if_neg h]
      have e3 : leastC n xs = 0 := by unfold leastC; rw [if_neg h]
      have e4 : proofErr n xs = asked n xs := rfl
      have e5 : proofR n xs = [] := by unfold proofR; rw [if_neg h]
      rw [e1, e2, e3] at k16
      rw [e4, e5] at k18
      have hsu : subm n xs = false := by rw [subm_asked]; exact decide_eq_false h
      rw [hsu] at k21
      have hq : (asked n xs != 0) = true := by simpa using h
      clear k28 e1 e2 e3 e4 e5 hsu h
      generalize asked n xs = er at *
      go_enter Try.func7, Try.ntmps7
      go_wp2_with fail
      refine k14.out.mono ?_
      rintro e w' ⟨rfl, rfl⟩
      go_wp2_with fail
      refine (k16.out _ I0.out).mono ?_
      rintro e w1 ⟨rfl, hb⟩
      have B1 := Lib.hid (below_step b0.out hb)
      have I1 := Lib.hid (I0.out.below hb)
      clear hb
      go_wp2_with fail
      refine (k18.out _ I1.out).mono ?_
      rintro e w2 ⟨A2, k2, c2, rfl, hi, hb⟩
      obtain rfl : k2 = 0 := hi.len.symm
      have B2 := Lib.hid (below_step B1.out hb)
      have I2 := Lib.hid (I1.out.below hb)
      clear hb hi
      go_wp2_with fail
      refine (k21.out _ I2.out).mono ?_
      rintro e w3 ⟨rfl, hd⟩
      have B3 := Lib.hid (below_step B2.out (below_draw hd))
      clear hd
      go_wp2_with fail
      refine (f15_any _).mono ?_
      rintro e w7 ⟨rfl, hb⟩
      have B7 := Lib.hid (below_step B3.out hb)
      clear hb
      go_wp2_with fail
      go_ret
      exact ⟨rfl, B7.out⟩
  · have hf : (decide (len ≤ 100) && decide (m ≤ 100)) = false := by
      rw [Bool.eq_false_iff]
      simpa using hl
    rw [hf] at k14
    clear hs ho hl hf
    go_enter Try.func7, Try.ntmps7
    go_wp2_with fail
    refine k14.out.mono ?_
    rintro e w' ⟨rfl, rfl⟩
    go_wp2_with fail
    refine (f15_any _).mono ?_
    rintro e w6 ⟨rfl, hb6⟩
    have B6 := Lib.hid (below_step b0.out hb6)
    clear hb6
    go_wp2_with fail
    go_ret
    exact ⟨rfl, B6.out⟩
end Go.Proofs.Ytpehhbiodmgjeaa
