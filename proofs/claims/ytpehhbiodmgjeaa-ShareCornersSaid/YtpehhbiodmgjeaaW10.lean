/- Walks: Greedy (both). -/
import Derived.Test.YtpehhbiodmgjeaaW9
namespace Go.Proofs.Ytpehhbiodmgjeaa
open Go.RowKit

def greedyErr (n : Int) (xs os : List Int) : Int := if asked n xs = 0 then (if ordOk n.toNat os then 0 else 2) else asked n xs
def greedyR (n : Int) (xs os : List Int) : List Int := if asked n xs = 0 then (if ordOk n.toNat os then greedyL n.toNat xs (os.map Int.toNat) else []) else []

theorem ord_range {n : Nat} {os : List Int} (h : ordOk n os = true) : ∀ j, j < n → 0 ≤ os.getD j 0 ∧ os.getD j 0 < n := fun j hj => by
  obtain ⟨h1, h2, _⟩ := (ordOk_facts h).2 j hj
  exact ⟨h1, h2⟩

set_option maxHeartbeats 1000000 in
/-- share.Greedy -/
theorem f38_any (A B : Option Addr) (n : Int) (len c m d : Nat) (xs os : List Int) (w : World) (hs : Ints w A len xs) (ho : Ints w B m os) :
    Calls Try.prog 38 #[.int .i64 n, .slice A len c, .slice B m d] w fun e w' =>
      ∃ A' k c', e = .returned (.tuple #[.slice A' k c', .int .i64 (greedyErr n xs os)]) ∧ Ints w' A' k (greedyR n xs os) ∧ Below w.heap.size w w' := by
  by_cases h : asked n xs = 0
  · obtain ⟨hok, hT⟩ := asked_zero h
    obtain ⟨n', rfl, h1, h6, hln, hbd, h0⟩ := costOk_facts hok
    have HL : Hid (len = 2 ^ n') := by rw [← hs.len]; exact hln
    have k44 := Lib.hid (f44_yes A n' len c xs w hs h)
    have HO := Lib.hid ho
    cases hw : ordOk n' os
    · have e1 : Hid (greedyErr n' xs os = 2) := by unfold greedyErr; rw [if_pos h, Int.toNat_natCast, hw]; rfl
      have e2 : Hid (greedyR n' xs os = []) := by unfold greedyR; rw [if_pos h, Int.toNat_natCast, hw]; rfl
      have HW := Lib.hid hw
      clear h hok hT hln h0 hs ho hw
      go_enter Try.func38, Try.ntmps38
      go_wp2_with fail
      refine k44.out.mono ?_
      rintro e w1 ⟨p, rfl, hc, hs, hb, _⟩
      have HB := Lib.hid hb
      have k71 := Lib.hid (f71_any p A B n' len c m d os w1 hc (HO.out.below hb) h6)
      rw [HW.out] at k71
      clear hc hb hs
      go_wp2_with fail
      refine k71.out.mono ?_
      rintro e w' ⟨rfl, rfl⟩
      go_wp2
      go_ret2
      exact ⟨none, 0, 0, by rw [e1.out]; rfl, by rw [e2.out]; exact Ints.nil _ _, HB.out⟩
    · have e1 : Hid (greedyErr n' xs os = 0) := by unfold greedyErr; rw [if_pos h, Int.toNat_natCast, hw]; rfl
      have e2 : Hid (greedyR n' xs os = greedyL n' xs (os.map Int.toNat)) := by unfold greedyR; rw [if_pos h, Int.toNat_natCast, hw]; rfl
      have HW := Lib.hid hw
      have hr := Lib.hid (ord_range hw)
      have HM : Hid (m = n') := by rw [← ho.len]; exact (ordOk_facts hw).1
      clear h hok hT hln h0 hs ho hw
      go_enter Try.func38, Try.ntmps38
      go_wp2_with fail
      refine k44.out.mono ?_
      rintro e w1 ⟨p, rfl, hc, hs, hb, _⟩
      have HB := Lib.hid hb
      have k71 := Lib.hid (f71_any p A B n' len c m d os w1 hc (HO.out.below hb) h6)
      rw [HW.out] at k71
      have k49 := Lib.hid (f49_any p A B n' len c m d xs os w1 hc hs (HO.out.below hb) h6 HL.out (fun j => by have := hbd j; omega) (fun j hj => hr.out j (by rw [HM.out] at hj; exact hj)))
      clear hc hb hs
      go_wp2_with fail
      refine k71.out.mono ?_
      rintro e w' ⟨rfl, rfl⟩
      go_wp2_with fail
      refine k49.out.mono ?_
      rintro e w2 ⟨rfl, hown, hb2⟩
      have HOW := Lib.hid hown
      have HB2 := Lib.hid hb2
      clear hown hb2
      go_wp2
      go_ret2
      exact ⟨_, _, _, by rw [e1.out]; rfl, by rw [e2.out]; exact HOW.out.ints' (greedyL_len _ _ _) (by omega), below_step HB.out HB2.out⟩
  · have k44 := Lib.hid (f44_no A n len c xs w hs h)
    have e1 : Hid (greedyErr n xs os = asked n xs) := by unfold greedyErr; rw [if_neg h]; rfl
    have e2 : Hid (greedyR n xs os = []) := by unfold greedyR; rw [if_neg h]; rfl
    have hq : (asked n xs != 0) = true := by simpa using h
    clear h
    go_enter Try.func38, Try.ntmps38
    go_wp2_with fail
    refine k44.out.mono ?_
    rintro e w1 ⟨rfl, hb⟩
    have HB := Lib.hid hb
    clear hb
    go_wp2
    go_ret2
    exact ⟨none, 0, 0, by rw [e1.out]; rfl, by rw [e2.out]; exact Ints.nil _ _, HB.out⟩

set_option maxHeartbeats 1000000 in
/-- dibberref08.Greedy -/
theorem f39_any (A B : Option Addr) (n : Int) (len c m d : Nat) (xs os : List Int) (w : World) (hs : Ints w A len xs) (ho : Ints w B m os) :
    Calls Try.prog 39 #[.int .i64 n, .slice A len c, .slice B m d] w fun e w' =>
      ∃ A' k c', e = .returned (.tuple #[.slice A' k c', .int .i64 (greedyErr n xs os)]) ∧ Ints w' A' k (greedyR n xs os) ∧ Below w.heap.size w w' := by
  have k46 := Lib.hid (f46_any A n len c xs w hs)
  by_cases h : asked n xs = 0
  · obtain ⟨hok, hT⟩ := asked_zero h
    obtain ⟨n', rfl, h1, h6, hln, hbd, h0⟩ := costOk_facts hok
    have HL : Hid (len = 2 ^ n') := by rw [← hs.len]; exact hln
    rw [h] at k46
    have HO := Lib.hid ho
    have HS := Lib.hid hs
    have k42 : Hid (∀ W, Ints W B m os → Calls Try.prog 42 #[.int .i64 (n' : Int), .slice B m d] W fun e w' => e = .returned (.bool (ordOk n' os)) ∧ W = w') := fun W hW => f42_any B n' m d os W hW h6
    cases hw : ordOk n' os
    · have e1 : Hid (greedyErr n' xs os = 2) := by unfold greedyErr; rw [if_pos h, Int.toNat_natCast, hw]; rfl
      have e2 : Hid (greedyR n' xs os = []) := by unfold greedyR; rw [if_pos h, Int.toNat_natCast, hw]; rfl
      rw [hw] at k42
      clear h hok hT hln h0 hs ho hw
      go_enter Try.func39, Try.ntmps39
      go_wp2_with fail
      refine k46.out.mono ?_
      rintro e w1 ⟨rfl, md, rfl⟩
      go_wp2_with fail
      refine (k42.out _ (HO.out.drewN md)).mono ?_
      rintro e w' ⟨rfl, rfl⟩
      go_wp2
      go_ret2
      exact ⟨none, 0, 0, by rw [e1.out]; rfl, by rw [e2.out]; exact Ints.nil _ _, below_drewN (Below.refl _ _) _⟩
    · have e1 : Hid (greedyErr n' xs os = 0) := by unfold greedyErr; rw [if_pos h, Int.toNat_natCast, hw]; rfl
      have e2 : Hid (greedyR n' xs os = greedyL n' xs (os.map Int.toNat)) := by unfold greedyR; rw [if_pos h, Int.toNat_natCast, hw]; rfl
      have hr := Lib.hid (ord_range hw)
      have hnd := Lib.hid (ordOk_nodup hw)
      have HM : Hid (m = n') := by rw [← ho.len]; exact (ordOk_facts hw).1
      rw [hw] at k42
      clear h hok hT hln h0 hs ho hw
      go_enter Try.func39, Try.ntmps39
      go_wp2_with fail
      refine k46.out.mono ?_
      rintro e w1 ⟨rfl, md, rfl⟩
      go_wp2_with fail
      refine (k42.out _ (HO.out.drewN md)).mono ?_
      rintro e w' ⟨rfl, rfl⟩
      go_wp2_with fail
      refine (f70_any A B n' len c m d xs os _ (HS.out.drewN md) (HO.out.drewN md) h6 HL.out hbd (fun j hj => hr.out j (by rw [HM.out] at hj; exact hj)) hnd.out).mono ?_
      rintro e w2 ⟨rfl, hown, hb2⟩
      have HOW := Lib.hid hown
      have HB2 := Lib.hid hb2
      clear hown hb2
      go_wp2
      go_ret2
      exact ⟨_, _, _, by rw [e1.out]; rfl, by rw [e2.out]; exact HOW.out.ints' (greedyL_len _ _ _) (by omega), below_step (below_drewN (Below.refl _ _) md) HB2.out⟩
  · have e1 : Hid (greedyErr n xs os = asked n xs) := by unfold greedyErr; rw [if_neg h]; rfl
    have e2 : Hid (greedyR n xs os = []) := by unfold greedyR; rw [if_neg h]; rfl
    have hq : (asked n xs != 0) = true := by simpa using h
    clear h
    go_enter Try.func39, Try.ntmps39
    go_wp2_with fail
    refine k46.out.mono ?_
    rintro e w1 ⟨rfl, md, rfl⟩
    go_wp2
    go_ret2
    exact ⟨none, 0, 0, by rw [e1.out]; rfl, by rw [e2.out]; exact Ints.nil _ _, below_drewN (Below.refl _ _) _⟩
end Go.Proofs.Ytpehhbiodmgjeaa
