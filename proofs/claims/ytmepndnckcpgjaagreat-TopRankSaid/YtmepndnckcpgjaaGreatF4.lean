/- Walks: Groups, Bridges. -/
import Derived.Test.YtmepndnckcpgjaaGreatF3
namespace Go.Proofs.YtmepndnckcpgjaaGreat
open Go.RowKit
theorem Row.below' {w w' : World} {base : Nat} {v : Value} {xs : List Int} (h : Row w base v xs) (hb : Below w.heap.size w w') : Row w' base v xs :=
  World.ownsRow.kept h (grown_below hb none) (by cases hv : v.ownBlock <;> simp)
def grR (n : Int) (fs : List (Int × Int)) : Int := if garE n fs = 0 then groupsN n.toNat fs (allM fs.length) else 0
def brTo (n : Nat) (fs : List (Int × Int)) (k : Nat) : List Nat := (List.range k).filter (brB n fs)
def brL (n : Int) (fs : List (Int × Int)) : List Nat := if garE n fs = 0 then brTo n.toNat fs fs.length else []
theorem brTo_succ (n : Nat) (fs : List (Int × Int)) (k : Nat) : brTo n fs (k + 1) = if brB n fs k = true then brTo n fs k ++ [k] else brTo n fs k := by
  unfold brTo
  rw [List.range_succ, List.filter_append]
  cases h : brB n fs k <;> simp [h]
theorem brTo_len (n : Nat) (fs : List (Int × Int)) (k : Nat) : (brTo n fs k).length ≤ k := by
  have := List.length_filter_le (brB n fs) (List.range k)
  rwa [List.length_range] at this
theorem garE_pos {n : Int} {fs : List (Int × Int)} (h : garE n fs = 0) : ∃ k : Nat, n = k := by
  refine nat_of n ?_
  unfold garE at h
  by_cases h1 : n < 1 ∨ 8 < n
  · rw [if_pos h1] at h; cases h
  · omega
set_option maxHeartbeats 1000000 in
/-- fence.Groups -/
theorem f11_any (n : Int) (A : Option Addr) (m c : Nat) (fs : List (Int × Int)) (w : World) (hs : m ≤ 14 → Fens w A m fs) (hl : fs.length = m) (hsm : m ≤ 9223372036854775807) :
    Calls Tryz.prog 11 #[.int .i64 n, .slice A m c] w fun e w' => e = .returned (.tuple #[.int .i64 (grR n fs), .int .i64 (garE n fs)]) ∧ Below w.heap.size w w' := by
  by_cases h : garE n fs = 0
  · obtain ⟨n', rfl⟩ := garE_pos h
    obtain ⟨_, _, h14, _⟩ := garE_facts h
    have HR : Hid (grR (n' : Int) fs = groupsN n' fs (allM m)) := Lib.hid (by unfold grR; rw [if_pos h, Int.toNat_natCast, hl])
    have HE := Lib.hid h
    have K31 := Lib.hid (f31_yes n' A m c fs w (hs (by omega)) h)
    have hM := allM_lt (show m ≤ 14 by omega)
    have hm14 : m ≤ 14 := by omega
    clear h hs hl h14
    go_enter Tryz.func11, Tryz.ntmps11
    go_wp2_with fail
    refine K31.out.mono ?_
    rintro e w1 ⟨p, rfl, hg, hb, _⟩
    have HB := Lib.hid hb
    have K33 : Hid (Calls Tryz.prog 33 #[.pointer (some ⟨p, 0, none⟩)] w1 fun e w' => e = .returned (.int .i64 (allM m : Int)) ∧ w1 = w') := Lib.hid (f33g_any p n' A m c fs w1 hg hm14)
    have K32 := Lib.hid (f32_any p n' A m c fs (allM m) w1 hg HE.out hM)
    generalize allM m = M at *
    clear hg hb
    go_wp2_with fail
    refine K33.out.mono ?_
    rintro e w' ⟨rfl, rfl⟩
    go_wp2_with fail
    refine K32.out.mono ?_
    rintro e w2 ⟨rfl, hb⟩
    have HB2 := Lib.hid (below_step HB.out hb)
    clear hb
    go_wp2
    go_ret2
    exact ⟨by rw [HR.out, HE.out]; rfl, HB2.out⟩
  · have HR : Hid (grR n fs = 0) := Lib.hid (by unfold grR; rw [if_neg h])
    have K31 := Lib.hid (f31_no n A m c fs w hs hl hsm h)
    have hq : (garE n fs != 0) = true := by simpa using h
    clear h
    generalize garE n fs = E at *
    go_enter Tryz.func11, Tryz.ntmps11
    go_wp2_with fail
    refine K31.out.mono ?_
    rintro e w1 ⟨rfl, hb⟩
    have HB := Lib.hid hb
    clear hb
    go_wp2
    go_ret2
    exact ⟨by rw [HR.out]; rfl, HB.out⟩
set_option maxRecDepth 100000 in
set_option maxHeartbeats 4000000 in
/-- fence.Bridges -/
theorem f14_any (n : Int) (A : Option Addr) (m c : Nat) (fs : List (Int × Int)) (w : World) (hs : m ≤ 14 → Fens w A m fs) (hl : fs.length = m) (hsm : m ≤ 9223372036854775807) :
    Calls Tryz.prog 14 #[.int .i64 n, .slice A m c] w fun e w' => ∃ A' c', e = .returned (.tuple #[.slice A' (brL n fs).length c', .int .i64 (garE n fs)]) ∧ Below w.heap.size w w' := by
  by_cases h : garE n fs = 0
  · obtain ⟨n', rfl⟩ := garE_pos h
    obtain ⟨_, _, h14, _⟩ := garE_facts h
    have HR : Hid (brL (n' : Int) fs = brTo n' fs m) := Lib.hid (by unfold brL; rw [if_pos h, Int.toNat_natCast, hl])
    have HE := Lib.hid h
    have K31 := Lib.hid (f31_yes n' A m c fs w (hs (by omega)) h)
    have hm14 : m ≤ 14 := by omega
    have HBS := Lib.hid (brTo_succ n' fs)
    have HBL := Lib.hid (brTo_len n' fs)
    have HB0 : Hid (brTo n' fs 0 = []) := Lib.hid rfl
    clear h hs hl h14
    go_enter Tryz.func14, Tryz.ntmps14
    go_wp2_with fail
    refine K31.out.mono ?_
    rintro e w1 ⟨p, rfl, hg, hb, _⟩
    have HB := Lib.hid hb
    have HG := Lib.hid hg
    clear hg hb
    go_wp2
    go_loopw [21, 8] (fun ii vi wr => ∃ i : Nat, i ≤ m ∧ ii = .int .i64 (i : Int) ∧ Hid (Row wr w1.heap.size vi (zs (brTo n' fs i))) ∧ Hid (Below w1.heap.size w1 wr)) (fun ii _ _ => m - (intOf ii).toNat)
    case atStart => exact ⟨0, by omega, rfl, Lib.hid (by rw [HB0.out]; exact Row.nil _ _), Lib.hid (Below.refl _ _)⟩
    case round => as_aux_lemma =>
      obtain ⟨i, hi, rfl, HRW, HW⟩ := hrel
      by_cases him : i < m
      · have i0 : (0 : Int) ≤ (i : Int) := by omega
        have im : (i : Int) < (m : Int) := by omega
        have K34 := Lib.hid (f34_any p n' A m c fs i wr (HG.out.below HW.out) HE.out him)
        have HS1 := Lib.hid (HBS.out i)
        have HL1 := Lib.hid (HBL.out i)
        have hm6 : i ≤ 14 := by omega
        cases hv : brB n' fs i
        · rw [hv] at K34 HS1
          have HS2 : Hid (brTo n' fs (i + 1) = brTo n' fs i) := Lib.hid (by rw [HS1.out]; rfl)
          clear hv HS1
          go_wp2_with fail
          refine K34.out.mono ?_
          rintro e w2 ⟨rfl, hb⟩
          have HW2 := Lib.hid (below_step HW.out hb)
          have HR2 := Lib.hid (Row.below' HRW.out hb)
          clear hb
          go_wp2
          go_roundw
          case rel => exact ⟨i + 1, by omega, by go_num, Lib.hid (by rw [HS2.out]; exact HR2.out), HW2⟩
          case measure => simp [intOf]; omega
        · rw [hv] at K34 HS1
          have HS2 : Hid (zs (brTo n' fs (i + 1)) = zs (brTo n' fs i) ++ [(i : Int)]) := Lib.hid (by rw [HS1.out, if_pos rfl, zs_snoc])
          clear hv HS1
          go_wp2_with fail
          refine K34.out.mono ?_
          rintro e w2 ⟨rfl, hb⟩
          have HW2 := Lib.hid (below_step HW.out hb)
          have HR2 := Lib.hid (Row.below' HRW.out hb)
          have hsz := HW2.out.size
          clear hb
          go_wp2_with (at_builtin; refine wpList_push rfl (.tmp 27) (.tmp 29) rfl w1.heap.size _ (zs (brTo n' fs i)) rfl (HR2.out.alloc _) w2.heap.size 1 (i : Int) rfl ?hc ?hl ?hb ?hr)
          case hc => exact (cell_new w2 #[.int .i64 (i : Int)] 3 0).trans rfl
          case hl => rw [zs_len]; exact Nat.le_trans HL1.out (by omega)
          case hb => exact le_alloc hsz _
          case hr =>
            intro v2 w3 hr2 hg2
            rw [← HS2.out] at hr2
            have HR3 := Lib.hid hr2
            have HW3 : Hid (Below w1.heap.size w1 w3) := Lib.hid (below_grown (HW2.out.alloc hsz _) hg2 (le_alloc hsz _) (HR2.out.alloc _) (Nat.le_refl _))
            clear hr2 hg2
            go_wp2
            go_roundw
            case rel => exact ⟨i + 1, by omega, by go_num, HR3, HW3⟩
            case measure => simp [intOf]; omega
      · obtain rfl : i = m := by omega
        obtain ⟨A', c', e, _⟩ := HRW.out.form
        rw [zs_len] at e
        subst e
        go_wp2
        go_ret2
        exact ⟨A', c', by rw [HR.out, HE.out]; rfl, below_step HB.out HW.out⟩
  · have HR : Hid (brL n fs = []) := Lib.hid (by unfold brL; rw [if_neg h])
    have K31 := Lib.hid (f31_no n A m c fs w hs hl hsm h)
    have hq : (garE n fs != 0) = true := by simpa using h
    clear h
    generalize garE n fs = E at *
    go_enter Tryz.func14, Tryz.ntmps14
    go_wp2_with fail
    refine K31.out.mono ?_
    rintro e w1 ⟨rfl, hb⟩
    have HB := Lib.hid hb
    clear hb
    go_wp2
    go_ret2
    exact ⟨none, 0, by rw [HR.out]; rfl, HB.out⟩
end Go.Proofs.YtmepndnckcpgjaaGreat
