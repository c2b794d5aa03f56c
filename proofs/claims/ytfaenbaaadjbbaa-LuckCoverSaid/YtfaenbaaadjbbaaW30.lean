/- Walk: ref.Loss. -/
import Derived.Test.YtfaenbaaadjbbaaW11
namespace Go.Proofs.Ytfaenbaaadjbbaa
open Go.RowKit

def loE (k : Int) (goal : List Int) (s : Int) : Int := if goalOk k goal = true then (if 0 ≤ s ∧ s < ((2 ^ k.toNat : Nat) : Int) then (if canB k.toNat goal = true then 0 else 10) else 4) else 2
def loX (k : Int) (goal : List Int) (s : Int) : Int := if loE k goal s = 0 then ratN (lossTo k.toNat goal s.toNat k.toNat) (allG k.toNat) else 0
def loY (k : Int) (goal : List Int) (s : Int) : Int := if loE k goal s = 0 then ratD (lossTo k.toNat goal s.toNat k.toNat) (allG k.toNat) else 0
theorem lo_no {w : World} {k : Int} {goal : List Int} {s : Int} (e : Int) (he : e ≠ 0) (h : loE k goal s = e) : RatErr w (loX k goal s) (loY k goal s) (loE k goal s) = RatErr w 0 0 e := by
  unfold loX loY; rw [h, if_neg he, if_neg he]
theorem lo_arg {k : Int} {goal : List Int} {s : Int} (h : goalOk k goal = false) : loE k goal s = 2 := by unfold loE; rw [h]; rfl
theorem lo_range {k : Int} {goal : List Int} {s : Int} (h : goalOk k goal = true) (hs : ¬ (0 ≤ s ∧ s < ((2 ^ k.toNat : Nat) : Int))) : loE k goal s = 4 := by unfold loE; rw [if_pos h, if_neg hs]
theorem lo_plan {k : Nat} {goal : List Int} {s : Nat} (h : goalOk k goal = true) (hs : s < 2 ^ k) (hc : canB k goal = false) : loE k goal s = 10 := by
  unfold loE
  rw [if_pos h, if_pos ⟨by omega, by rw [Int.toNat_natCast]; exact Int.ofNat_lt.mpr hs⟩, Int.toNat_natCast, if_neg (by simp [hc])]
theorem lo_yes {w : World} {k : Nat} {goal : List Int} {s : Nat} (h : goalOk k goal = true) (hs : s < 2 ^ k) (hc : canB k goal = true) :
    RatErr w (loX k goal s) (loY k goal s) (loE k goal s) = RatErr w (ratN (lossTo k goal s k) (allG k)) (ratD (lossTo k goal s k) (allG k)) 0 := by
  have e : loE k goal s = 0 := by
    unfold loE
    rw [if_pos h, if_pos ⟨by omega, by rw [Int.toNat_natCast]; exact Int.ofNat_lt.mpr hs⟩, Int.toNat_natCast, if_pos hc]
  unfold loX loY
  rw [e, if_pos rfl, if_pos rfl, Int.toNat_natCast, Int.toNat_natCast]

set_option maxRecDepth 100000 in
set_option maxHeartbeats 4000000 in
/-- dibberref05.Loss -/
theorem f27_any (A : Option Addr) (k : Int) (n c : Nat) (goal : List Int) (s : Int) (w : World) (hs : Ints w A n goal) :
    Calls Try.prog 27 #[.int .i64 k, .slice A n c, .int .i64 s] w (RatErr w (loX k goal s) (loY k goal s) (loE k goal s)) := by
  obtain ⟨w0, hw0⟩ : ∃ w0, w0 = w.alloc (.cells #[.int .i64 0, .int .i64 0] 26) := ⟨_, rfl⟩
  have b0 : Below w.heap.size w w0 := by rw [hw0]; exact below_alloc _ _
  have k29 := Lib.hid (f29_any k A n c goal w0 (hs.below b0))
  have HS := Lib.hid (hs.below b0)
  have HW := Lib.hid hw0
  obtain ⟨r0, r1, r2, r3, hz, hfin, hfin2⟩ := res_cells hw0 (Below.refl _ _)
  have HF := Lib.hid hfin2
  clear hfin hfin2
  cases hok : goalOk k goal
  · rw [lo_no 2 (by decide) (lo_arg hok)]
    rw [hok] at k29
    clear hok hs hw0
    go_enter Try.func27, Try.ntmps27
    go_wp2_with fail
    rw [← HW.out]
    refine k29.out.mono ?_
    rintro e w1 ⟨rfl, rfl⟩
    go_wp2
    exact bodyPost_ret (v := .tuple #[.agg #[.int .i64 0, .int .i64 0], .int .i64 2]) (by simp [results, Try.results27, go_sem, r0, r1]) rfl ⟨rfl, by first | exact HF.out | exact (HF.out.setCell (Nat.le_refl _) _).setCell (Nat.le_refl _) _⟩
  obtain ⟨k, rfl, g1, g2, g3, g4⟩ := goalOk_facts hok
  rw [hok] at k29
  obtain ⟨N, hN, hshl⟩ := shl_one k (by omega)
  have hN2 : N ≤ 1024 := by rw [hN]; exact pow10 k g2
  by_cases hrg : ¬ (0 ≤ s ∧ s < ((2 ^ k : Nat) : Int))
  · rw [lo_no 4 (by decide) (lo_range hok (by rw [Int.toNat_natCast]; exact hrg))]
    rw [← hN] at hrg
    by_cases h0 : s < 0
    · clear hok hs hw0 hN hrg g3 g4
      go_enter Try.func27, Try.ntmps27
      go_wp2_with fail
      rw [← HW.out]
      refine k29.out.mono ?_
      rintro e w1 ⟨rfl, rfl⟩
      go_wp2
      exact bodyPost_ret (v := .tuple #[.agg #[.int .i64 0, .int .i64 0], .int .i64 4]) (by simp [results, Try.results27, go_sem, r0, r1]) rfl ⟨rfl, by first | exact HF.out | exact (HF.out.setCell (Nat.le_refl _) _).setCell (Nat.le_refl _) _⟩
    · have h1 : (N : Int) ≤ s := by omega
      clear hok hs hw0 hN hrg g3 g4
      go_enter Try.func27, Try.ntmps27
      go_wp2_with fail
      rw [← HW.out]
      refine k29.out.mono ?_
      rintro e w1 ⟨rfl, rfl⟩
      go_wp2
      exact bodyPost_ret (v := .tuple #[.agg #[.int .i64 0, .int .i64 0], .int .i64 4]) (by simp [results, Try.results27, go_sem, r0, r1]) rfl ⟨rfl, by first | exact HF.out | exact (HF.out.setCell (Nat.le_refl _) _).setCell (Nat.le_refl _) _⟩
  have hrg' : 0 ≤ s ∧ s < ((2 ^ k : Nat) : Int) := Classical.not_not.mp hrg
  clear hrg
  obtain ⟨s, rfl⟩ := nat_of s hrg'.1
  have hsN : s < 2 ^ k := Int.ofNat_lt.mp hrg'.2
  clear hrg'
  have hl : n = 2 ^ k := by rw [← hs.len]; exact g3
  have k58 := Lib.hid (f58_any A k n c goal w0 HS.out g2 hl (goal600 g2 g4))
  have hsN1 : s < N := by rw [hN]; exact hsN
  cases hcan : canB k goal
  · rw [lo_no 10 (by decide) (lo_plan hok hsN hcan)]
    rw [hcan] at k58
    clear hok hs hw0 hN g3 g4 hsN hl hcan
    go_enter Try.func27, Try.ntmps27
    go_wp2_with fail
    rw [← HW.out]
    refine k29.out.mono ?_
    rintro e w1 ⟨rfl, rfl⟩
    go_wp2_with fail
    refine k58.out.mono ?_
    rintro e w1 ⟨rfl, hb⟩
    obtain ⟨r0, r1, r2, r3, hz1, hfin, hfin2⟩ := res_cells HW.out hb
    have HF := Lib.hid hfin2
    clear hb hfin hfin2
    go_wp2
    exact bodyPost_ret (v := .tuple #[.agg #[.int .i64 0, .int .i64 0], .int .i64 10]) (by simp [results, Try.results27, go_sem, r0, r1]) rfl ⟨rfl, by first | exact HF.out | exact (HF.out.setCell (Nat.le_refl _) _).setCell (Nat.le_refl _) _⟩
  rw [lo_yes hok hsN hcan]
  rw [hcan] at k58
  have k59 : Hid (∀ w1, Below w0.heap.size w0 w1 → ∀ m, m < k → Calls Try.prog 59 #[.int .i64 (k : Int), .slice A n c, .int .i64 (m : Int), .int .i64 ((s / 2 ^ (k - m) : Nat) : Int)] w1 fun e w' => e = .returned (.tuple #[.int .i64 (gv k goal m (s / 2 ^ (k - m)) : Int), .int .i64 ((2 * denG k m : Nat) : Int)]) ∧ w1 = w') := fun w1 h1 m h2 =>
    f59_any A k n c m (s / 2 ^ (k - m)) goal w1 (HS.out.below h1) g2 h2 hl (by
      rw [Nat.div_lt_iff_lt_mul (Nat.pow_pos (by omega)), ← Nat.pow_add]
      rwa [show m + (k - m) = k by omega]) (goal600 g2 g4)
  have hall2 : allG k ≤ 122880 := by unfold allG; rw [← hN]; omega
  have hall0 := allG_pos k
  have hAL : IntKind.i64.wrap ((120 : Int) * 2 ^ k) = (allG k : Int) := by
    have e : (120 : Int) * 2 ^ k = (allG k : Int) := by unfold allG; simp
    rw [e, IntWalk.i64_in _ (by omega)]
  have hlt : Hid (∀ m, m ≤ k → lossTo k goal s m ≤ 1228800) := fun m hm => Nat.le_trans (lossTo_le k goal s m hm) (by
    have := Nat.mul_le_mul (show m ≤ 10 by omega) hall2; omega)
  have hstep : Hid (∀ m, m < k → allG k / (2 * denG k m) = 2 ^ (m + 1) ∧ 0 < denG k m ∧ 2 * denG k m ≤ 122880) := fun m hm => by
    have e := allG_eq hm
    have hp := denG_pos k m
    have h2 : 1 * (2 * denG k m) ≤ 2 ^ (m + 1) * (2 * denG k m) := Nat.mul_le_mul_right _ (Nat.pow_pos (by omega))
    exact ⟨by rw [e, Nat.mul_div_cancel _ (by omega)], hp, by omega⟩
  have HK : Hid (goalOk k goal = true ∧ N = 2 ^ k) := ⟨hok, hN⟩
  clear hok hs hw0 hN g3 g4 hsN hl hcan
  generalize hAd : allG k = Al at *
  have HAd := Lib.hid hAd
  clear hAd
  go_enter Try.func27, Try.ntmps27
  go_wp2_with fail
  rw [← HW.out]
  refine k29.out.mono ?_
  rintro e w1 ⟨rfl, rfl⟩
  go_wp2_with fail
  refine k58.out.mono ?_
  rintro e w1 ⟨rfl, hb⟩
  obtain ⟨r0, r1, r2, r3, hz1, hfin, hfin2⟩ := res_cells HW.out hb
  have HB := Lib.hid hb
  clear hb hfin hfin2
  go_wp2
  go_loopw [9, 10, 11, 12] (fun sm i _ _ wr => ∃ m : Nat, m ≤ k ∧ i = .int .i64 (m : Int) ∧ sm = .int .i64 (lossTo k goal s m : Int) ∧ ∃ d, wr = w1.drewN d) (fun _ i _ _ _ => k - (intOf i).toNat)
  case atStart => exact ⟨0, by omega, rfl, rfl, 0, rfl⟩
  case round =>
    obtain ⟨m, hm, rfl, rfl, d, rfl⟩ := hrel
    have hlo := hlt.out m hm
    by_cases hmk : m < k
    · have K59 := Lib.hid (k59.out _ (below_drewN HB.out d) m hmk)
      have hst : Hid (lossTo k goal s (m + 1) = lossTo k goal s m + lostIn k goal s m * 2 ^ (m + 1)) := rfl
      obtain ⟨t1, t2, t3⟩ := hstep.out m hmk
      have hdf : lostIn k goal s m = if s.testBit (k - 1 - m) then 2 * denG k m - gv k goal m (s / 2 ^ (k - m)) else gv k goal m (s / 2 ^ (k - m)) := rfl
      have hgv := gv_le k goal m (s / 2 ^ (k - m))
      have e1 := cast_shr s (k - m)
      have e2 := shr_bit s (k - 1 - m)
      have hml : Hid ((2 * denG k m) * 2 ^ (m + 1) ≤ 122880) := by
        have h := Nat.div_mul_le_self Al (2 * denG k m)
        rw [t1, Nat.mul_comm] at h
        exact Nat.le_trans h hall2
      generalize lossTo k goal s m = v at *
      generalize gv k goal m (s / 2 ^ (k - m)) = g at *
      generalize s / 2 ^ (k - m) = b at *
      generalize lostIn k goal s m = L at *
      generalize hDd : 2 * denG k m = D at *
      have hD0 : 0 < D := by omega
      generalize hPd : 2 ^ (m + 1) = P at *
      have hP0 : 0 < P := by rw [← hPd]; exact Nat.pow_pos (by omega)
      have hPl : P ≤ 122880 := by rw [← t1]; exact Nat.le_trans (Nat.div_le_self _ _) hall2
      have d1 : (Al : Int) / (D : Int) = (P : Int) := by rw [nat_div, t1]
      have d2 : IntKind.i64.wrap ((Al : Int) / (D : Int)) = (P : Int) := by rw [d1, IntWalk.i64_in _ (by omega)]
      clear t1 t2 hDd hPd
      cases hbt : s.testBit (k - 1 - m)
      · rw [hbt] at hdf e2
        have hL : L = g := by simpa using hdf
        have hgm : Hid (g * P ≤ 122880) := Nat.le_trans (Nat.mul_le_mul_right _ hgv) hml.out
        have c1 : (g : Int) * (P : Int) = ((g * P : Nat) : Int) := by simp
        have HL := Lib.hid hL
        have hgm2 := hgm.out
        have HG : Hid (v + L * P = v + g * P) := by rw [hL]; rfl
        generalize g * P = M at *
        clear hdf hL hbt
        go_wp2_with fail
        refine K59.out.mono ?_
        rintro e w2 ⟨rfl, rfl⟩
        go_wp2
        go_roundw
        case rel => exact ⟨m + 1, by omega, by go_num, by rw [hst.out, HG.out]; go_num, by first | exact ⟨_, rfl⟩ | exact ⟨_, World.drewN_drewN _ _ _⟩⟩
        case measure => simp [intOf]; omega
      · rw [hbt] at hdf e2
        have hL : L = D - g := by simpa using hdf
        obtain ⟨g', hg'⟩ : ∃ g', g' = D - g := ⟨_, rfl⟩
        have hgm : Hid (g' * P ≤ 122880) := Nat.le_trans (Nat.mul_le_mul_right _ (by omega)) hml.out
        have c0 : IntKind.i64.wrap ((D : Int) - (g : Int)) = (g' : Int) := by rw [IntWalk.i64_in _ (by omega)]; omega
        have c1 : (g' : Int) * (P : Int) = ((g' * P : Nat) : Int) := by simp
        have hgm2 := hgm.out
        have HG : Hid (v + L * P = v + g' * P) := by rw [hL, hg']; rfl
        have hg'2 : (D : Int) - (g : Int) = (g' : Int) := by omega
        generalize g' * P = M at *
        clear hdf hL hbt hg'
        go_wp2_with fail
        refine K59.out.mono ?_
        rintro e w2 ⟨rfl, rfl⟩
        go_wp2
        go_roundw
        case rel => exact ⟨m + 1, by omega, by go_num, by rw [hst.out, HG.out]; go_num, by first | exact ⟨_, rfl⟩ | exact ⟨_, World.drewN_drewN _ _ _⟩⟩
        case measure => simp [intOf]; omega
    · obtain rfl : m = k := by omega
      have B2 := Lib.hid (below_drewN HB.out d)
      have k53 := Lib.hid (fun W => f53_any (lossTo m goal s m) Al W (by omega) (by omega) hall0)
      generalize lossTo m goal s m = v at *
      generalize w1.drewN d = w2 at *
      go_wp2_with fail
      refine (k53.out _).mono ?_
      rintro e w3 ⟨rfl, hb⟩
      obtain ⟨r0, r1, r2, r3, hz, hfin, hfin2⟩ := res_cells HW.out (below_step B2.out hb)
      have HF := Lib.hid hfin
      clear hb hfin hfin2
      go_wp2
      refine bodyPost_ret (v := .tuple #[.agg #[.int .i64 (ratN v Al : Int), .int .i64 (ratD v Al : Int)], .int .i64 0]) (by simp [results, Try.results27, go_sem, r0, r1]) rfl ?_
      exact ⟨rfl, HF.out _ _⟩
end Go.Proofs.Ytfaenbaaadjbbaa
