/- Walks: Trees. -/
import Derived.Test.YtmepndnckcpgjaaGreatPlain27
namespace Go.Proofs.YtmepndnckcpgjaaGreat
open Go.RowKit
theorem f74_one (w : World) : Calls Tryz.prog 74 #[.int .i64 1] w fun e w' => e = .returned (.bool true) ∧ w = w' := by
  go_enter Tryz.func74, Tryz.ntmps74
  go_wp2
  go_ret
  exact ⟨rfl, rfl⟩
set_option maxRecDepth 100000 in
set_option maxHeartbeats 8000000 in
/-- fence.Value at 1, 1 -/
theorem f48_one (n : Nat) (A : Option Addr) (m c : Nat) (fs : List (Int × Int)) (w : World) (hs : Fens w A m fs) (h : garE n fs = 0) (hm : m ≤ 10) :
    Calls Tryz.prog 48 #[.int .i64 (n : Int), .slice A m c, .int .i64 1, .int .i64 1] w fun e w' => e = .returned (.tuple #[.int .i64 (numB n fs : Int), .int .i64 0]) ∧ Below w.heap.size w w' := by
  have K31 := Lib.hid (f31_yes n A m c fs w hs h)
  have HE := Lib.hid h
  have hl := hs.len
  have HV : Hid (outF (polyF n m fs) 1 1 15 = numB n fs) := Lib.hid (val_numB m (by omega) fs hl h)
  have HO : Hid (AtOk (polyF n m fs) 1 1) := Lib.hid (one_ok fun j i => by
    have h1 := polyF_in n m fs j i
    have hP : (2 : Int) ^ m ≤ 1024 := by
      have h2 : ((2 ^ m : Nat) : Int) ≤ ((2 ^ 10 : Nat) : Int) := Int.ofNat_le.2 (Nat.pow_le_pow_right (by omega) hm)
      rw [Int.natCast_pow] at h2
      have h3 : ((2 ^ 10 : Nat) : Int) = 1024 := by decide
      rw [h3] at h2
      exact h2
    omega)
  clear hs h hl
  go_enter Tryz.func48, Tryz.ntmps48
  go_wp2_with fail
  refine K31.out.mono ?_
  rintro e w1 ⟨p, rfl, hg, hb, _⟩
  have HB1 := Lib.hid hb
  have HG1 := Lib.hid hg
  clear hb hg
  go_wp2_with fail
  refine (f74_one w1).mono ?_
  rintro e w' ⟨rfl, rfl⟩
  go_wp2_with fail
  refine (f74_one w1).mono ?_
  rintro e w' ⟨rfl, rfl⟩
  go_wp2_with fail
  refine (f55_any m hm p n A c fs w1 HG1.out HE.out).mono ?_
  rintro e w2 ⟨q, rfl, ht, hb, _⟩
  have HB2 := Lib.hid (below_step HB1.out hb)
  have K56 : Hid (Calls Tryz.prog 56 #[.pointer (some ⟨q, 0, none⟩), .int .i64 1, .int .i64 1] w2 fun e w' => e = .returned (.int .i64 (numB n fs : Int)) ∧ w2 = w') := Lib.hid (by
    have := f56_any q _ 1 1 w2 ht HO.out
    rw [HV.out] at this
    exact this)
  clear ht hb
  go_wp2_with fail
  refine K56.out.mono ?_
  rintro e w' ⟨rfl, rfl⟩
  go_wp2
  go_ret2
  exact ⟨rfl, HB2.out⟩
set_option maxHeartbeats 4000000 in
/-- fence.Trees -/
theorem f10_one (n : Nat) (A : Option Addr) (m c : Nat) (fs : List (Int × Int)) (w : World) (hs : Fens w A m fs) (h : garE n fs = 0) (hm : m ≤ 10) :
    Calls Tryz.prog 10 #[.int .i64 (n : Int), .slice A m c] w fun e w' => e = .returned (.tuple #[.int .i64 (numB n fs : Int), .int .i64 0]) ∧ Below w.heap.size w w' := by
  have K48 := Lib.hid (f48_one n A m c fs w hs h hm)
  generalize (numB n fs : Int) = N at *
  have K30 : Hid (Calls Tryz.prog 30 #[.int .i64 (n : Int), .slice A m c, .int .i64 1, .int .i64 1] w fun e w' => e = .returned (.tuple #[.int .i64 N, .int .i64 0]) ∧ Below w.heap.size w w') := Lib.hid (by
    clear hs h
    go_enter Tryz.func30, Tryz.ntmps30
    go_wp2_with fail
    refine K48.out.mono ?_
    rintro e w1 ⟨rfl, hb⟩
    have HB1 := Lib.hid hb
    clear hb
    go_wp2
    go_ret2
    exact ⟨rfl, HB1.out⟩)
  clear hs h K48
  go_enter Tryz.func10, Tryz.ntmps10
  go_wp2_with fail
  refine K30.out.mono ?_
  rintro e w1 ⟨rfl, hb⟩
  have HB1 := Lib.hid hb
  clear hb
  go_wp2
  go_ret2
  exact ⟨rfl, HB1.out⟩
end Go.Proofs.YtmepndnckcpgjaaGreat
