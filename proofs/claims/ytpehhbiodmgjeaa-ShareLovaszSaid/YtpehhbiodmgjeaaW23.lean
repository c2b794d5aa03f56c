/- Walk: ShareChecks. -/
import Derived.Test.YtpehhbiodmgjeaaW22
namespace Go.Proofs.Ytpehhbiodmgjeaa
open Go.RowKit

theorem none_of_row {w : World} {a : Option Addr} {len cap : Nat} {zs : List Int}
    (h : (a = none ∧ len = 0 ∧ cap = 0 ∧ zs = []) ∨ ∃ x, a = some x ∧ len ≤ cap ∧ cap ≤ maxLen ∧ zs.length = cap ∧ (∀ i, i < zs.length → w.cell? (x.add i) = some (.int .i64 (zs.getD i 0))) ∧ ∀ n ∈ zs, (Lit.int .i64 n).wf = true) :
    a = none → len = 0 ∧ cap = 0 := by
  rcases h with ⟨rfl, rfl, rfl, rfl⟩ | ⟨x, rfl, _⟩
  · exact fun _ => ⟨rfl, rfl⟩
  · intro h; cases h
theorem c14_2 (A B : Option Addr) (n c m d : Nat) (w : World) (hn : n ≤ 9223372036854775807) (hm : m ≤ 9223372036854775807) :
    Calls Try.prog 14 #[.slice (some ⟨w.heap.size, 0, none⟩) 2 2] (w.alloc (.cells #[.slice A n c, .slice B m d] 22)) fun e w' => e = .returned (.bool (decide (n ≤ 100) && decide (m ≤ 100))) ∧ w.alloc (.cells #[.slice A n c, .slice B m d] 22) = w' := by
  refine (f14_any _ 2 2 _ _ (lens_lit w [(A, n, c), (B, m, d)] (by simp) (by simpa using ⟨hn, hm⟩)) rfl).mono ?_
  rintro e w' ⟨rfl, rfl⟩
  exact ⟨by simp [fewB], rfl⟩

set_option maxRecDepth 100000 in
set_option maxHeartbeats 4000000 in
/-- dibberlaw08.ShareChecks -/
theorem f6_any (n : Int) (A B : Option Addr) (len c m d : Nat) (xs ys : List Int) (w : World) (hs : Came w A len xs) (ho : Came w B m ys)
    (hA : A = none → len = 0 ∧ c = 0) (hB : B = none → m = 0 ∧ d = 0) :
    Calls Try.prog 6 #[.int .i64 n, .slice A len c, .slice B m d] w fun e w' => e = .returned (.bool true) ∧ Below w.heap.size w w' := by
  have k14 := Lib.hid (c14_2 A B len c m d w hs.len ho.len)
  have b0 := Lib.hid (below_alloc w (.cells #[.slice A len c, .slice B m d] 22))
  by_cases hl : len ≤ 100 ∧ m ≤ 100
  · have I0 := Lib.hid ((hs.2 hl.1).below b0.out)
    have J0 := Lib.hid ((ho.2 hl.2).below b0.out)
    rw [decide_eq_true hl.1, decide_eq_true hl.2] at k14
    have HX := Lib.hid (hs.2 hl.1).len
    have HY := Lib.hid (ho.2 hl.2).len
    have HA := Lib.hid hA
    have HB := Lib.hid hB
    obtain ⟨hl1, hl2⟩ := hl
    clear hs ho hA hB
    go_enter Try.func6, Try.ntmps6
    go_wp2_with fail
    refine k14.out.mono ?_
    rintro e w' ⟨rfl, rfl⟩
    obtain ⟨W0, hW0⟩ : ∃ W0, W0 = w.alloc (.cells #[.slice A len c, .slice B m d] 22) := ⟨_, rfl⟩
    rw [← hW0]
    rw [← hW0] at b0 I0 J0
    clear hW0 k14
    go_wp2_with (at_builtin; refine wpList_pushAll rfl (.tmp 23) (.tmp 24) rfl W0.heap.size _ [] rfl (Row.empty W0 _ (Nat.le_refl _)) A len c xs rfl HA.out (I0.out.below (below_alloc W0 _)) ?hl ?hb ?hr)
    case hl => simp; omega
    case hb => simp
    case hr =>
      intro v1 W1 hr hg
      have B1 := Lib.hid (below_grown (below_alloc W0 _) hg (by simp) (Row.empty W0 _ (Nat.le_refl _)) (Nat.le_refl _))
      obtain ⟨A1, c1, rfl, hi⟩ := hr.form
      try simp only [List.nil_append] at hi
      have hi := hi 100 (by rw [HX.out]; exact hl1) (by omega)
      rw [HX.out] at hi
      try rw [List.nil_append]
      rw [HX.out]
      have P1 := Lib.hid hi
      have I1 := Lib.hid (I0.out.below B1.out)
      have J1 := Lib.hid (J0.out.below B1.out)
      clear hr hg hi
      go_wp2_with (at_builtin; refine wpList_pushAll rfl (.tmp 26) (.tmp 27) rfl W1.heap.size _ [] rfl (Row.empty W1 _ (Nat.le_refl _)) B m d ys rfl HB.out (J1.out.below (below_alloc W1 _)) ?hl ?hb ?hr)
      case hl => simp; omega
      case hb => simp
      case hr =>
        intro v2 W2 hr hg
        have b2 := below_grown (below_alloc W1 _) hg (by simp) (Row.empty W1 _ (Nat.le_refl _)) (Nat.le_refl _)
        obtain ⟨A2, c2, rfl, hi⟩ := hr.form
        try simp only [List.nil_append] at hi
        have hi := hi 100 (by rw [HY.out]; exact hl2) (by omega)
        rw [HY.out] at hi
        try rw [List.nil_append]
        rw [HY.out]
        have B2 := Lib.hid (below_step b0.out (below_step B1.out b2))
        have Q2 := Lib.hid hi
        have P2 := Lib.hid (P1.out.below b2)
        have I2 := Lib.hid (I1.out.below b2)
        have J2 := Lib.hid (J1.out.below b2)
        clear hr hg hi b2 P1 I1 J1 B1 I0 J0 b0
        go_wp2_with fail
        refine (f24_any A1 n len c1 xs _ P2.out).mono ?_
        rintro e w3 ⟨rfl, hb⟩
        have B3 := Lib.hid (below_step B2.out hb)
        have P3 := Lib.hid (P2.out.below hb)
        have Q3 := Lib.hid (Q2.out.below hb)
        have I3 := Lib.hid (I2.out.below hb)
        have J3 := Lib.hid (J2.out.below hb)
        clear hb
        go_wp2_with fail
        refine (f25_any A n len c xs _ I3.out).mono ?_
        rintro e w4 ⟨rfl, hd⟩
        have hb := below_draw hd
        have B4 := Lib.hid (below_step B3.out hb)
        have P4 := Lib.hid (P3.out.below hb)
        have Q4 := Lib.hid (Q3.out.below hb)
        have I4 := Lib.hid (I3.out.below hb)
        have J4 := Lib.hid (J3.out.below hb)
        clear hb hd
        go_wp2_with fail
        refine (f26_any A1 A2 n len c1 m c2 xs ys _ P4.out Q4.out).mono ?_
        rintro e w5 ⟨A5, k5, c5, rfl, hi, hb⟩
        have B5 := Lib.hid (below_step B4.out hb)
        have P5 := Lib.hid (P4.out.below hb)
        have Q5 := Lib.hid (Q4.out.below hb)
        have I5 := Lib.hid (I4.out.below hb)
        have J5 := Lib.hid (J4.out.below hb)
        have S5 := Lib.hid hi
        clear hb hi
        go_wp2_with fail
        refine (f27_any A B n len c m d xs ys _ I5.out J5.out).mono ?_
        rintro e w6 ⟨A6, k6, c6, rfl, hi, hb⟩
        have B6 := Lib.hid (below_step B5.out hb)
        have P6 := Lib.hid (P5.out.below hb)
        have Q6 := Lib.hid (Q5.out.below hb)
        have I6 := Lib.hid (I5.out.below hb)
        have J6 := Lib.hid (J5.out.below hb)
        have S6 := Lib.hid (S5.out.below hb)
        have T6 := Lib.hid hi
        clear hb hi
        go_wp2_with fail
        refine (f20_any _ _ _ _ _ _ _ _ _ S6.out T6.out).mono ?_
        rintro e w7 ⟨rfl, hd⟩
        rw [decide_eq_true (rfl : sumR n xs ys = sumR n xs ys)]
        have hb := below_draw hd
        have B7 := Lib.hid (below_step B6.out hb)
        have P7 := Lib.hid (P6.out.below hb)
        have Q7 := Lib.hid (Q6.out.below hb)
        have I7 := Lib.hid (I6.out.below hb)
        have J7 := Lib.hid (J6.out.below hb)
        clear hb hd
        go_wp2_with fail
        refine (f20_any _ _ _ _ _ _ _ _ _ P7.out I7.out).mono ?_
        rintro e w8 ⟨rfl, hd⟩
        rw [decide_eq_true (rfl : xs = xs)]
        have hb := below_draw hd
        have B8 := Lib.hid (below_step B7.out hb)
        have Q8 := Lib.hid (Q7.out.below hb)
        have J8 := Lib.hid (J7.out.below hb)
        clear hb hd
        go_wp2_with fail
        refine (f20_any _ _ _ _ _ _ _ _ _ Q8.out J8.out).mono ?_
        rintro e w9 ⟨rfl, hd⟩
        rw [decide_eq_true (rfl : ys = ys)]
        have B9 := Lib.hid (below_step B8.out (below_draw hd))
        clear hd
        go_wp2_with fail
        refine (f15_any _).mono ?_
        rintro e w10 ⟨rfl, hb⟩
        have B10 := Lib.hid (below_step B9.out hb)
        clear hb
        go_wp2_with fail
        go_ret
        exact ⟨rfl, B10.out⟩
  · have hf : (decide (len ≤ 100) && decide (m ≤ 100)) = false := by
      rw [Bool.eq_false_iff]
      simpa using hl
    rw [hf] at k14
    clear hs ho hl hf
    go_enter Try.func6, Try.ntmps6
    go_wp2_with fail
    refine k14.out.mono ?_
    rintro e w' ⟨rfl, rfl⟩
    go_wp2_with fail
    refine (f15_any _).mono ?_
    rintro e w6 ⟨rfl, hb6⟩
    have B6 := Lib.hid (below_step b0.out hb6)
    clear hb6
    go_wp2_with fail
    go_ret
    exact ⟨rfl, B6.out⟩
end Go.Proofs.Ytpehhbiodmgjeaa
