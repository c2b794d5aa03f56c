/- Walks: Guess (both). -/
import Derived.Test.YtfaenbaaadjbbaaW10
namespace Go.Proofs.Ytfaenbaaadjbbaa
open Go.RowKit

def guArg (k : Int) (goal nights : List Int) : Bool := goalOk k goal && decide ((nights.length : Int) < k) && nights.all bitB
def guE (k : Int) (goal nights : List Int) : Int := if guArg k goal nights = true then (if canB k.toNat goal = true then 0 else 10) else 2
def guX (k : Int) (goal nights : List Int) : Int := if guE k goal nights = 0 then ratN (gv k.toNat goal nights.length (bnum nights)) (2 * denG k.toNat nights.length) else 0
def guY (k : Int) (goal nights : List Int) : Int := if guE k goal nights = 0 then ratD (gv k.toNat goal nights.length (bnum nights)) (2 * denG k.toNat nights.length) else 0
theorem gu_no {w : World} {k : Int} {goal nights : List Int} (e : Int) (he : e ≠ 0) (h : guE k goal nights = e) : RatErr w (guX k goal nights) (guY k goal nights) (guE k goal nights) = RatErr w 0 0 e := by
  unfold guX guY; rw [h, if_neg he, if_neg he]
theorem guE_arg {k : Int} {goal nights : List Int} (h : guArg k goal nights = false) : guE k goal nights = 2 := by unfold guE; rw [h]; rfl

/-- What stays of the result's block. -/
theorem res_cells {w w0 w1 : World} (hw0 : w0 = w.alloc (.cells #[.int .i64 0, .int .i64 0] 26)) (hb : Below w0.heap.size w0 w1) :
    w1.cell? ⟨w.heap.size, 0, none⟩ = some (.int .i64 0) ∧ w1.cell? ⟨w.heap.size, 1, none⟩ = some (.int .i64 0) ∧ w1.frozen? ⟨w.heap.size, 0, none⟩ = false ∧ w1.frozen? ⟨w.heap.size, 1, none⟩ = false ∧ w.heap.size < w1.heap.size ∧
      (∀ u v, Below w.heap.size w ((w1.setCell ⟨w.heap.size, 0, none⟩ u).setCell ⟨w.heap.size, 1, none⟩ v)) ∧ Below w.heap.size w w1 := by
  subst hw0
  obtain ⟨hc1, hc2⟩ := bcell hb
  have hz : w.heap.size < (w.alloc (.cells #[.int .i64 0, .int .i64 0] 26)).heap.size := by simp
  have hb2 := below_step (below_alloc w (.cells #[.int .i64 0, .int .i64 0] 26)) hb
  refine ⟨(hc1 _ 0 hz).trans (cell_new _ _ _ _), (hc1 _ 1 hz).trans (cell_new _ _ _ _), (hc2 _ 0 hz).trans (frozen_new _ _ _ _), (hc2 _ 1 hz).trans (frozen_new _ _ _ _), Nat.lt_of_lt_of_le hz hb.size, fun u v => (hb2.setCell (Nat.le_refl _) _).setCell (Nat.le_refl _) _, hb2⟩

set_option maxRecDepth 100000 in
set_option maxHeartbeats 4000000 in
/-- luck.Guess -/
theorem f23_any (A B : Option Addr) (k : Int) (n c m d : Nat) (goal nights : List Int) (w : World) (hs : Ints w A n goal) (hcap : n ≤ c) (hn : Ints w B m nights) (hnil : B = none → m = 0 ∧ d = 0) :
    Calls Try.prog 23 #[.int .i64 k, .slice A n c, .slice B m d] w (RatErr w (guX k goal nights) (guY k goal nights) (guE k goal nights)) := by
  obtain ⟨w0, hw0⟩ : ∃ w0, w0 = w.alloc (.cells #[.int .i64 0, .int .i64 0] 26) := ⟨_, rfl⟩
  have b0 : Below w.heap.size w w0 := by rw [hw0]; exact below_alloc _ _
  have k55 := Lib.hid (f55_any k A n c goal w0 (hs.below b0))
  have HS := Lib.hid (hs.below b0)
  have HN := Lib.hid (hn.below b0)
  have hms := hn.small
  have hlen := hn.len
  cases hok : goalOk k goal
  · have hE : guE k goal nights = 2 := guE_arg (by unfold guArg; rw [hok]; rfl)
    rw [gu_no 2 (by decide) hE]
    rw [hok] at k55
    have HW := Lib.hid hw0
    clear hok hE hs hn hlen
    go_enter Try.func23, Try.ntmps23
    go_wp2_with fail
    rw [← HW.out]
    refine k55.out.mono ?_
    rintro e w1 ⟨rfl, hb⟩
    obtain ⟨r0, r1, r2, r3, hz, hfin, hfin2⟩ := res_cells HW.out hb
    have HF := Lib.hid hfin2
    clear hb hfin hfin2
    go_wp2
    exact bodyPost_ret (v := .tuple #[.agg #[.int .i64 0, .int .i64 0], .int .i64 2]) (by simp [results, Try.results23, go_sem, r0, r1]) rfl ⟨rfl, by first | exact HF.out | exact (HF.out.setCell (Nat.le_refl _) _).setCell (Nat.le_refl _) _⟩
  obtain ⟨k, rfl, g1, g2, g3, g4⟩ := goalOk_facts hok
  rw [hok] at k55
  by_cases hmk : k ≤ m
  · have hE : guE k goal nights = 2 := guE_arg (by unfold guArg; rw [hlen, decide_eq_false (by omega : ¬ (m : Int) < (k : Int)), Bool.and_false]; rfl)
    rw [gu_no 2 (by decide) hE]
    have HW := Lib.hid hw0
    clear hok hE hs hn hlen hw0
    go_enter Try.func23, Try.ntmps23
    go_wp2_with fail
    rw [← HW.out]
    refine k55.out.mono ?_
    rintro e w1 ⟨rfl, hb⟩
    obtain ⟨r0, r1, r2, r3, hz, hfin, hfin2⟩ := res_cells HW.out hb
    have HF := Lib.hid hfin2
    clear hb hfin hfin2
    go_wp2
    exact bodyPost_ret (v := .tuple #[.agg #[.int .i64 0, .int .i64 0], .int .i64 2]) (by simp [results, Try.results23, go_sem, r0, r1]) rfl ⟨rfl, by first | exact HF.out | exact (HF.out.setCell (Nat.le_refl _) _).setCell (Nat.le_refl _) _⟩
  cases hbt : nights.all bitB
  · have hE : guE k goal nights = 2 := guE_arg (by unfold guArg; rw [hbt, Bool.and_false])
    rw [gu_no 2 (by decide) hE]
    have HW := Lib.hid hw0
    have hbs : Hid (bitsB (m : Int) nights = false) := by unfold bitsB; rw [hbt, Bool.and_false]; rfl
    have k51 := Lib.hid (fun w1 h => f51_any B m d nights (m : Int) w1 h)
    rw [hbs.out] at k51
    clear hok hE hs hn hlen hw0 hbt
    go_enter Try.func23, Try.ntmps23
    go_wp2_with fail
    rw [← HW.out]
    refine k55.out.mono ?_
    rintro e w1 ⟨rfl, hb⟩
    obtain ⟨r0, r1, r2, r3, hz, hfin, hfin2⟩ := res_cells HW.out hb
    have HF := Lib.hid hfin2
    have HN1 := Lib.hid (HN.out.below hb)
    clear hb hfin hfin2
    go_wp2_with fail
    refine (k51.out _ HN1.out).mono ?_
    rintro e w2 ⟨rfl, rfl⟩
    go_wp2
    exact bodyPost_ret (v := .tuple #[.agg #[.int .i64 0, .int .i64 0], .int .i64 2]) (by simp [results, Try.results23, go_sem, r0, r1]) rfl ⟨rfl, by first | exact HF.out | exact (HF.out.setCell (Nat.le_refl _) _).setCell (Nat.le_refl _) _⟩
  have harg : guArg k goal nights = true := by unfold guArg; rw [hok, hbt, hlen, decide_eq_true (by omega : (m : Int) < (k : Int))]; rfl
  have hbs : Hid (bitsB (m : Int) nights = true) := by unfold bitsB; rw [hbt, hlen, decide_eq_true rfl]; rfl
  have k51 := Lib.hid (fun w1 h => f51_any B m d nights (m : Int) w1 h)
  rw [hbs.out] at k51
  have hl : n = 2 ^ k := by rw [← hs.len]; exact g3
  have k56 : Hid (∀ w1, Ints w1 A n goal → Calls Try.prog 56 #[.slice A n c] w1 fun e w' => e = .returned (.int .i64 (lev 122880 (sc 2048 goal) k 0)) ∧ Below w1.heap.size w1 w') := fun w1 h => f56_any A k n c goal w1 h g2 hl (goal600 g2 g4)
  have hsg : decide (lev 122880 (sc 2048 goal) k 0 < 0) = !canB k goal := lev_sign k goal g2
  generalize lev 122880 (sc 2048 goal) k 0 = x at *
  cases hc : canB k goal
  · have hx : x < 0 := by rw [hc] at hsg; simpa using hsg
    have hE : guE k goal nights = 10 := by unfold guE; rw [harg, Int.toNat_natCast, hc]; rfl
    rw [gu_no 10 (by decide) hE]
    have HW := Lib.hid hw0
    clear hok hE hs hn hlen hw0 hbt harg hsg hc hl
    go_enter Try.func23, Try.ntmps23
    go_wp2_with fail
    rw [← HW.out]
    refine k55.out.mono ?_
    rintro e w1 ⟨rfl, hb⟩
    have HN1 := Lib.hid (HN.out.below hb)
    have HS1 := Lib.hid (HS.out.below hb)
    have B1 := Lib.hid hb
    clear hb
    go_wp2_with fail
    refine (k51.out _ HN1.out).mono ?_
    rintro e w2 ⟨rfl, rfl⟩
    go_wp2_with fail
    refine (k56.out _ HS1.out).mono ?_
    rintro e w2 ⟨rfl, hb⟩
    obtain ⟨r0, r1, r2, r3, hz, hfin, hfin2⟩ := res_cells HW.out (below_step B1.out hb)
    have HF := Lib.hid hfin2
    clear hb hfin hfin2
    go_wp2
    exact bodyPost_ret (v := .tuple #[.agg #[.int .i64 0, .int .i64 0], .int .i64 10]) (by simp [results, Try.results23, go_sem, r0, r1]) rfl ⟨rfl, by first | exact HF.out | exact (HF.out.setCell (Nat.le_refl _) _).setCell (Nat.le_refl _) _⟩
  · have hx : 0 ≤ x := by rw [hc] at hsg; simpa using hsg
    have hE : guE k goal nights = 0 := by unfold guE; rw [harg, Int.toNat_natCast, hc]; rfl
    have hX : guX k goal nights = ratN (gv k goal m (bnum nights)) (2 * denG k m) := by unfold guX; rw [if_pos hE, Int.toNat_natCast, hlen]
    have hY : guY k goal nights = ratD (gv k goal m (bnum nights)) (2 * denG k m) := by unfold guY; rw [if_pos hE, Int.toNat_natCast, hlen]
    rw [hE, hX, hY]
    have k57 : Hid (∀ w1, Ints w1 A n goal → Ints w1 B m nights → Calls Try.prog 57 #[.int .i64 (k : Int), .slice A n c, .slice B m d] w1 (RatOf w1 (gv k goal m (bnum nights)) (2 * denG k m))) := fun w1 h1 h2 =>
      f57_any A B k n c m d goal nights w1 h1 hcap h2 hnil g2 (by omega) hl hbt (goal600 g2 g4)
    generalize gv k goal m (bnum nights) = G at *
    generalize 2 * denG k m = E at *
    have HW := Lib.hid hw0
    clear hok hE hX hY hs hn hlen hw0 hbt harg hsg hc hl hnil
    go_enter Try.func23, Try.ntmps23
    go_wp2_with fail
    rw [← HW.out]
    refine k55.out.mono ?_
    rintro e w1 ⟨rfl, hb⟩
    have HN1 := Lib.hid (HN.out.below hb)
    have HS1 := Lib.hid (HS.out.below hb)
    have B1 := Lib.hid hb
    clear hb
    go_wp2_with fail
    refine (k51.out _ HN1.out).mono ?_
    rintro e w2 ⟨rfl, rfl⟩
    go_wp2_with fail
    refine (k56.out _ HS1.out).mono ?_
    rintro e w2 ⟨rfl, hb⟩
    have HN2 := Lib.hid (HN1.out.below hb)
    have HS2 := Lib.hid (HS1.out.below hb)
    have B2 := Lib.hid (below_step B1.out hb)
    clear hb
    go_wp2_with fail
    refine (k57.out _ HS2.out HN2.out).mono ?_
    rintro e w3 ⟨rfl, hb⟩
    obtain ⟨r0, r1, r2, r3, hz, hfin, hfin2⟩ := res_cells HW.out (below_step B2.out hb)
    have HF := Lib.hid hfin
    clear hb hfin hfin2
    go_wp2
    exact bodyPost_ret (v := .tuple #[.agg #[.int .i64 (ratN G E : Int), .int .i64 (ratD G E : Int)], .int .i64 0]) (by simp [results, Try.results23, go_sem, r0, r1]) rfl ⟨rfl, HF.out _ _⟩
theorem all_at {l : List Int} {j : Nat} (hj : j < l.length) (h : bitB (l.getD j 0) = false) : l.all bitB = false := by
  rw [List.all_eq_false]
  exact ⟨l[j], List.getElem_mem hj, by simpa [List.getD_eq_getElem?_getD, hj] using h⟩
theorem all_mk {l : List Int} (h : ∀ j, j < l.length → bitB (l.getD j 0) = true) : l.all bitB = true := by
  rw [List.all_eq_true]
  intro x hx
  obtain ⟨j, hj, rfl⟩ := List.getElem_of_mem hx
  have := h j hj
  simpa [List.getD_eq_getElem?_getD, hj] using this
set_option maxRecDepth 100000 in
set_option maxHeartbeats 4000000 in
/-- dibberref05.Guess -/
theorem f25_any (A B : Option Addr) (k : Int) (n c m d : Nat) (goal nights : List Int) (w : World) (hs : Ints w A n goal) (hn : Ints w B m nights) :
    Calls Try.prog 25 #[.int .i64 k, .slice A n c, .slice B m d] w (RatErr w (guX k goal nights) (guY k goal nights) (guE k goal nights)) := by
  obtain ⟨w0, hw0⟩ : ∃ w0, w0 = w.alloc (.cells #[.int .i64 0, .int .i64 0] 26) := ⟨_, rfl⟩
  have b0 : Below w.heap.size w w0 := by rw [hw0]; exact below_alloc _ _
  have k29 := Lib.hid (f29_any k A n c goal w0 (hs.below b0))
  have HS := Lib.hid (hs.below b0)
  have HN := Lib.hid (hn.below b0)
  have hms := hn.small
  have hlen := hn.len
  have HW := Lib.hid hw0
  obtain ⟨r0, r1, r2, r3, hz, hfin, hfin2⟩ := res_cells hw0 (Below.refl _ _)
  have HF := Lib.hid hfin2
  clear hfin hfin2
  cases hok : goalOk k goal
  · have hE : guE k goal nights = 2 := guE_arg (by unfold guArg; rw [hok]; rfl)
    rw [gu_no 2 (by decide) hE]
    rw [hok] at k29
    clear hok hE hs hn hlen hw0
    go_enter Try.func25, Try.ntmps25
    go_wp2_with fail
    rw [← HW.out]
    refine k29.out.mono ?_
    rintro e w1 ⟨rfl, rfl⟩
    go_wp2
    exact bodyPost_ret (v := .tuple #[.agg #[.int .i64 0, .int .i64 0], .int .i64 2]) (by simp [results, Try.results25, go_sem, r0, r1]) rfl ⟨rfl, by first | exact HF.out | exact (HF.out.setCell (Nat.le_refl _) _).setCell (Nat.le_refl _) _⟩
  obtain ⟨k, rfl, g1, g2, g3, g4⟩ := goalOk_facts hok
  rw [hok] at k29
  by_cases hmk : k ≤ m
  · have hE : guE k goal nights = 2 := guE_arg (by unfold guArg; rw [hlen, decide_eq_false (by omega : ¬ (m : Int) < (k : Int)), Bool.and_false]; rfl)
    rw [gu_no 2 (by decide) hE]
    clear hok hE hs hn hlen hw0
    go_enter Try.func25, Try.ntmps25
    go_wp2_with fail
    rw [← HW.out]
    refine k29.out.mono ?_
    rintro e w1 ⟨rfl, rfl⟩
    go_wp2
    exact bodyPost_ret (v := .tuple #[.agg #[.int .i64 0, .int .i64 0], .int .i64 2]) (by simp [results, Try.results25, go_sem, r0, r1]) rfl ⟨rfl, by first | exact HF.out | exact (HF.out.setCell (Nat.le_refl _) _).setCell (Nat.le_refl _) _⟩
  have HL := Lib.hid hlen
  have hbad : Hid (∀ j, j < m → bitB (nights.getD j 0) = false → RatErr w (guX k goal nights) (guY k goal nights) (guE k goal nights) = RatErr w 0 0 2) := fun j hj h =>
    gu_no 2 (by decide) (guE_arg (by unfold guArg; rw [all_at (by rw [hlen]; exact hj) h, Bool.and_false]))
  have hl : n = 2 ^ k := by rw [← hs.len]; exact g3
  have k58 := Lib.hid (f58_any A k n c goal w0 HS.out g2 hl (goal600 g2 g4))
  have hNO : Hid (nights.all bitB = true → canB k goal = false → RatErr w (guX k goal nights) (guY k goal nights) (guE k goal nights) = RatErr w 0 0 10) := fun h1 h2 =>
    gu_no 10 (by decide) (by unfold guE guArg; rw [hok, h1, hlen, decide_eq_true (by omega : (m : Int) < (k : Int)), Int.toNat_natCast, h2]; rfl)
  have hYES : Hid (nights.all bitB = true → canB k goal = true → RatErr w (guX k goal nights) (guY k goal nights) (guE k goal nights) = RatErr w (ratN (gv k goal m (bnum nights)) (2 * denG k m)) (ratD (gv k goal m (bnum nights)) (2 * denG k m)) 0) := fun h1 h2 => by
    have hE : guE k goal nights = 0 := by unfold guE guArg; rw [hok, h1, hlen, decide_eq_true (by omega : (m : Int) < (k : Int)), Int.toNat_natCast, h2]; rfl
    have hX : guX k goal nights = ratN (gv k goal m (bnum nights)) (2 * denG k m) := by unfold guX; rw [if_pos hE, Int.toNat_natCast, hlen]
    have hY : guY k goal nights = ratD (gv k goal m (bnum nights)) (2 * denG k m) := by unfold guY; rw [if_pos hE, Int.toNat_natCast, hlen]
    rw [hE, hX, hY]
  have k59 : Hid (∀ w1, Ints w1 A n goal → nights.all bitB = true → Calls Try.prog 59 #[.int .i64 (k : Int), .slice A n c, .int .i64 (m : Int), .int .i64 (bnum nights : Int)] w1 fun e w' => e = .returned (.tuple #[.int .i64 (gv k goal m (bnum nights) : Int), .int .i64 ((2 * denG k m : Nat) : Int)]) ∧ w1 = w') := fun w1 h1 h2 =>
    f59_any A k n c m (bnum nights) goal w1 h1 g2 (by omega) hl (by rw [← hlen]; exact bnum_lt h2) (goal600 g2 g4)
  have k53 : Hid (∀ w1, Calls Try.prog 53 #[.int .i64 (gv k goal m (bnum nights) : Int), .int .i64 ((2 * denG k m : Nat) : Int)] w1 (RatOf w1 (gv k goal m (bnum nights)) (2 * denG k m))) := fun w1 => by
    have h1 := gv_le k goal m (bnum nights)
    have h2 := denG_pos k m
    have h3 := denG_le (m := m) g2
    exact f53_any _ _ w1 (by omega) (by omega) (by omega)
  generalize gv k goal m (bnum nights) = G at *
  generalize 2 * denG k m = E at *
  have HLT : Hid (∀ j, j ≤ m → (∀ a, a < j → bitB (nights.getD a 0) = true) → bnumTo nights j ≤ 1024) := fun j hj h => by
    have h0 : ∀ j, j ≤ m → (∀ a, a < j → bitB (nights.getD a 0) = true) → bnumTo nights j < 2 ^ j := fun j hj h => by
      have := bnumTo_lt (l := nights.take j) (all_mk fun a ha => by
        rw [List.length_take] at ha
        have := h a (by omega)
        simpa [List.getD_eq_getElem?_getD, List.getElem?_take_of_lt (by omega : a < j)] using this) j (by rw [List.length_take]; omega)
      unfold bnumTo at this ⊢
      rwa [List.take_take, Nat.min_self] at this
    have := h0 j hj h
    have := pow10 j (by omega)
    omega
  have hlast : Hid (bnumTo nights m = bnum nights) := by rw [← hlen]; exact bnumTo_all nights
  clear hok hs hn hlen hw0 hl
  go_enter Try.func25, Try.ntmps25
  go_wp2_with fail
  rw [← HW.out]
  refine k29.out.mono ?_
  rintro e w1 ⟨rfl, rfl⟩
  go_wp2
  go_loop [8, 9] (fun f i => ∃ j : Nat, j ≤ m ∧ i = .int .i64 (j : Int) ∧ f = .int .i64 (bnumTo nights j : Int) ∧ (∀ a, a < j → bitB (nights.getD a 0) = true)) (fun _ i => m - (intOf i).toNat)
  case atStart => exact ⟨0, by omega, rfl, rfl, fun a ha => absurd ha (by omega)⟩
  case round =>
    obtain ⟨j, hj, rfl, rfl, hbef⟩ := hrel
    have HBF := Lib.hid hbef
    have hvl := HLT.out j hj hbef
    clear hbef
    by_cases hlt : j < m
    · obtain ⟨b, off, rfl, hc⟩ := HN.out.at_ hlt
      have hst := Lib.hid (bnumTo_succ (l := nights) (j := j) (by rw [HL.out]; exact hlt))
      have hbd := Lib.hid (hbad.out j hlt)
      generalize hx : nights.getD j 0 = x at *
      have HX := Lib.hid hx
      have k54 := Lib.hid (f54_any x w0)
      generalize bnumTo nights j = v at *
      clear hx
      cases hbt : bitB x
      · rw [hbt] at k54
        have HE := Lib.hid (hbd.out hbt)
        clear hbt
        go_wp2_with fail
        refine k54.out.mono ?_
        rintro e w2 ⟨rfl, rfl⟩
        go_wp2
        refine bodyPost_ret (v := .tuple #[.agg #[.int .i64 0, .int .i64 0], .int .i64 2]) (by simp [results, Try.results25, go_sem, r0, r1]) rfl ?_
        rw [HE.out]
        exact ⟨rfl, by first | exact HF.out | exact (HF.out.setCell (Nat.le_refl _) _).setCell (Nat.le_refl _) _⟩
      · rw [hbt] at k54
        have HBT := Lib.hid hbt
        have hx01 : x = 0 ∨ x = 1 := (bitB_iff x).1 hbt
        have hx0 : 0 ≤ x := by omega
        have hx1 : x ≤ 1 := by omega
        clear hbt hx01
        go_wp2_with fail
        refine k54.out.mono ?_
        rintro e w2 ⟨rfl, rfl⟩
        go_wp2
        go_round
        case rel => exact ⟨j + 1, by omega, by go_num, by rw [hst.out]; go_num, fun a ha => by
          rcases Nat.lt_or_ge a j with h | h
          · exact HBF.out a h
          · obtain rfl : a = j := by omega
            rw [HX.out]; exact HBT.out⟩
        case measure => simp [intOf]; omega
    · obtain rfl : j = m := by omega
      have hall : Hid (nights.all bitB = true) := all_mk (fun a ha => HBF.out a (by rw [← HL.out]; exact ha))
      rw [hlast.out]
      have K59 := Lib.hid (k59.out _ HS.out hall.out)
      clear hvl
      cases hc : canB k goal
      · rw [hc] at k58
        have HE := Lib.hid (hNO.out hall.out hc)
        clear hc
        go_wp2_with fail
        refine k58.out.mono ?_
        rintro e w2 ⟨rfl, hb⟩
        obtain ⟨r0, r1, r2, r3, hz, hfin, hfin2⟩ := res_cells HW.out hb
        have HF := Lib.hid hfin2
        clear hb hfin hfin2
        go_wp2
        refine bodyPost_ret (v := .tuple #[.agg #[.int .i64 0, .int .i64 0], .int .i64 10]) (by simp [results, Try.results25, go_sem, r0, r1]) rfl ?_
        rw [HE.out]
        exact ⟨rfl, by first | exact HF.out | exact (HF.out.setCell (Nat.le_refl _) _).setCell (Nat.le_refl _) _⟩
      · rw [hc] at k58
        have HE := Lib.hid (hYES.out hall.out hc)
        clear hc
        go_wp2_with fail
        refine k58.out.mono ?_
        rintro e w2 ⟨rfl, hb⟩
        have HS2 := Lib.hid (HS.out.below hb)
        have B2 := Lib.hid hb
        clear hb
        go_wp2_with fail
        refine (k59.out _ HS2.out hall.out).mono ?_
        rintro e w3 ⟨rfl, rfl⟩
        go_wp2_with fail
        refine (k53.out _).mono ?_
        rintro e w3 ⟨rfl, hb⟩
        obtain ⟨r0, r1, r2, r3, hz, hfin, hfin2⟩ := res_cells HW.out (below_step B2.out hb)
        have HF := Lib.hid hfin
        clear hb hfin hfin2
        go_wp2
        refine bodyPost_ret (v := .tuple #[.agg #[.int .i64 (ratN G E : Int), .int .i64 (ratD G E : Int)], .int .i64 0]) (by simp [results, Try.results25, go_sem, r0, r1]) rfl ?_
        rw [HE.out]
        exact ⟨rfl, HF.out _ _⟩
end Go.Proofs.Ytfaenbaaadjbbaa
