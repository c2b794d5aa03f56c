/- Walk: LuckGoals. -/
import Derived.Test.YtfaenbaaadjbbaaW31
namespace Go.Proofs.Ytfaenbaaadjbbaa
open Go.RowKit

/-- A row of ints reads as a list and is no longer than its capacity. -/
theorem Row.form3 {w : World} {base : Nat} {v : Value} {xs : List Int} (h : Row w base v xs) (hs : xs.length ≤ 17592186044415) : ∃ A c, v = .slice A xs.length c ∧ Ints w A xs.length xs ∧ xs.length ≤ c := by
  obtain ⟨A, c, e, hi⟩ := h.form
  refine ⟨A, c, e, hi xs.length (Nat.le_refl _) hs, ?_⟩
  rcases h.2 with ⟨e2, hn⟩ | ⟨g, cap, cur, e2, hb, hh, hc, _⟩
  · omega
  · rw [e] at e2; injection e2 with _ _ h3; rw [h3]; exact hc
set_option maxRecDepth 100000 in
set_option maxHeartbeats 4000000 in
/-- dibberlaw05.LuckGoals: too long -/
theorem f6_long (k s : Int) (A B : Option Addr) (n c m d : Nat) (w : World) (hn : n ≤ 9223372036854775807) (hm : m ≤ 9223372036854775807) (h : 1100 < n ∨ 1100 < m) :
    Calls Try.prog 6 #[.int .i64 k, .slice A n c, .slice B m d, .int .i64 s] w fun e w' => e = .returned (.bool true) ∧ Below w.heap.size w w' := by
  by_cases h1 : 1100 < n
  · clear h
    go_enter Try.func6, Try.ntmps6
    go_wp2_with fail
    refine (f16_any _).mono ?_
    rintro e w6 ⟨rfl, hb6⟩
    have B6 := Lib.hid hb6
    clear hb6
    go_wp2_with fail
    go_ret
    exact ⟨rfl, B6.out⟩
  · have h2 : 1100 < m := by omega
    have h3 : n ≤ 1100 := by omega
    clear h h1
    go_enter Try.func6, Try.ntmps6
    go_wp2_with fail
    refine (f16_any _).mono ?_
    rintro e w6 ⟨rfl, hb6⟩
    have B6 := Lib.hid hb6
    clear hb6
    go_wp2_with fail
    go_ret
    exact ⟨rfl, B6.out⟩
set_option maxRecDepth 100000 in
set_option maxHeartbeats 8000000 in
/-- dibberlaw05.LuckGoals: short enough -/
theorem f6_short (k s : Int) (A B : Option Addr) (n c m d : Nat) (goal nights : List Int) (w : World) (hs : Ints w A n goal) (hA : A = none → n = 0 ∧ c = 0) (hn : Ints w B m nights) (hB : B = none → m = 0 ∧ d = 0) (h1 : n ≤ 1100) (h2 : m ≤ 1100) :
    Calls Try.prog 6 #[.int .i64 k, .slice A n c, .slice B m d, .int .i64 s] w fun e w' => e = .returned (.bool true) ∧ Below w.heap.size w w' := by
  have HS := Lib.hid hs
  have HN := Lib.hid hn
  have HA := Lib.hid hA
  have HNB := Lib.hid hB
  have hl := Lib.hid hs.len
  clear hs hn hA hB
  go_enter Try.func6, Try.ntmps6
  go_wp2_with (at_builtin; refine wpList_pushAll rfl (.tmp 25) (.tmp 26) rfl w.heap.size _ [] rfl (Row.empty w w.heap.size (Nat.le_refl _)) A n c goal rfl HA.out ?hi ?hl ?hb ?hr)
  case hi => exact HS.out.below (below_alloc _ _)
  case hl => simp; omega
  case hb => simp
  case hr =>
    intro v w1 hr hg
    have HB1 : Hid (Below w.heap.size w w1) := below_grown (below_alloc w _) hg (by simp) (Row.empty w w.heap.size (Nat.le_refl _)) (Nat.le_refl _)
    have hr' : Row w1 w.heap.size v goal := by simpa using hr
    obtain ⟨A', c', rfl, hi, hc⟩ := hr'.form3 (by rw [hl.out]; omega)
    rw [hl.out] at hi hc ⊢
    have HI := Lib.hid hi
    clear hr hr' hg hi
    go_wp2_with fail
    refine (f22_any A' k n c' goal w1 HI.out).mono ?_
    rintro e w2 ⟨rfl, hb⟩
    have HB2 := Lib.hid (below_step HB1.out hb)
    have HI2 := Lib.hid (HI.out.below hb)
    have K24 := Lib.hid (f24_any A k n c goal w2 (HS.out.below HB2.out))
    have K23 := Lib.hid (fun W h => f23_any A' B k n c' m d goal nights W h hc)
    clear hb
    generalize canR k goal = ca at *
    generalize canE k goal = ce at *
    go_wp2_with fail
    refine K24.out.mono ?_
    rintro e w3 ⟨rfl, hb⟩
    have HB3 := Lib.hid (below_step HB2.out hb)
    have HI3 := Lib.hid (HI2.out.below hb)
    clear hb
    go_wp2_with fail
    refine (K23.out w3 HI3.out (HN.out.below HB3.out) HNB.out).mono ?_
    rintro e w4 ⟨rfl, hb⟩
    have HB4 := Lib.hid (below_step HB3.out (below_step hb (below_alloc w4 (.cells #[.int .i64 (guX k goal nights), .int .i64 (guY k goal nights)] 26))))
    have K25 := Lib.hid (f25_any A B k n c m d goal nights _ (HS.out.below HB4.out) (HN.out.below HB4.out))
    have F0 : Hid ((w4.alloc (.cells #[.int .i64 (guX k goal nights), .int .i64 (guY k goal nights)] 26)).cell? ⟨w4.heap.size, 0, none⟩ = some (.int .i64 (guX k goal nights))) := cell_new _ _ _ _
    have F1 : Hid ((w4.alloc (.cells #[.int .i64 (guX k goal nights), .int .i64 (guY k goal nights)] 26)).cell? ⟨w4.heap.size, 1, none⟩ = some (.int .i64 (guY k goal nights))) := cell_new _ _ _ _
    have HB4w := Lib.hid (below_step HB3.out hb)
    have HI4w := Lib.hid (HI3.out.below hb)
    have HI4 := Lib.hid ((HI3.out.below hb).below (below_alloc w4 (.cells #[.int .i64 (guX k goal nights), .int .i64 (guY k goal nights)] 26)))
    clear hb K23 K24
    generalize guX k goal nights = gx at *
    generalize guY k goal nights = gy at *
    generalize guE k goal nights = ge at *
    go_wp2_with fail
    refine K25.out.mono ?_
    rintro e w5 ⟨rfl, hb⟩
    have b5 := below_step hb (below_alloc w5 (.cells #[.int .i64 gx, .int .i64 gy] 26))
    have q0 := (b5.cell (lt_of_cell F0.out)).trans F0.out
    have q1 := (b5.cell (lt_of_cell F1.out)).trans F1.out
    have q2 : (w5.alloc (.cells #[.int .i64 gx, .int .i64 gy] 26)).cell? ⟨w5.heap.size, 0, none⟩ = some (.int .i64 gx) := cell_new _ _ _ _
    have q3 : (w5.alloc (.cells #[.int .i64 gx, .int .i64 gy] 26)).cell? ⟨w5.heap.size, 1, none⟩ = some (.int .i64 gy) := cell_new _ _ _ _
    have HB5 := Lib.hid (below_step HB4.out b5)
    have HX5 := Lib.hid (below_step (below_alloc w4 (.cells #[.int .i64 gx, .int .i64 gy] 26)) b5)
    have FF : Hid ((∀ o, (w5.alloc (.cells #[.int .i64 gx, .int .i64 gy] 26)).frozen? ⟨w4.heap.size, o, none⟩ = false) ∧ (∀ o, (w5.alloc (.cells #[.int .i64 gx, .int .i64 gy] 26)).frozen? ⟨w5.heap.size, o, none⟩ = false)) :=
      ⟨fun o => ((bcell b5).2 _ o (by simp)).trans (frozen_new _ _ _ _), fun o => frozen_new _ _ _ _⟩
    have hsz5 : w4.heap.size < w5.heap.size := by have := hb.size; simp at this; omega
    have Q4 := Lib.hid (And.intro q0 (And.intro q1 (And.intro q2 q3)))
    have HI5 := Lib.hid (HI4.out.below b5)
    have K26 := Lib.hid (f26_any A' k n c' goal s _ HI5.out hc)
    clear hb b5 K25
    go_wp2_with fail
    refine K26.out.mono ?_
    rintro e w6 ⟨rfl, hb⟩
    obtain ⟨e1, e2⟩ := bcell hb
    have hl4 : w4.heap.size < (w5.alloc (.cells #[.int .i64 gx, .int .i64 gy] 26)).heap.size := by simp; omega
    have hl5 : w5.heap.size < (w5.alloc (.cells #[.int .i64 gx, .int .i64 gy] 26)).heap.size := by simp
    obtain ⟨q0', q1', q2', q3'⟩ := Q4.out
    have r0 := (e1 _ 0 hl4).trans q0'
    have r1 := (e1 _ 1 hl4).trans q1'
    have r2 := (e1 _ 0 hl5).trans q2'
    have r3 := (e1 _ 1 hl5).trans q3'
    have f0 := (e2 _ 0 hl4).trans (FF.out.1 0)
    have f1 := (e2 _ 1 hl4).trans (FF.out.1 1)
    have f2 := (e2 _ 0 hl5).trans (FF.out.2 0)
    have f3 := (e2 _ 1 hl5).trans (FF.out.2 1)
    have HX6 := Lib.hid (below_step HX5.out hb)
    clear hb e1 e2 K26 q0 q1 q2 q3 q0' q1' q2' q3'
    have k27 := Lib.hid (fun W h => f27_any A k n c goal s W h)
    generalize loX k goal s = lx at *
    generalize loY k goal s = ly at *
    generalize loE k goal s = le at *
    obtain ⟨W6, hW6⟩ : ∃ W6, W6 = (w6.setCell ⟨w4.heap.size, 0, none⟩ (.int .i64 lx)).setCell ⟨w4.heap.size, 1, none⟩ (.int .i64 ly) := ⟨_, rfl⟩
    have HW := Lib.hid hW6
    have HX7 : Hid (Below w4.heap.size w4 W6) := by rw [hW6]; exact (HX6.out.setCell (Nat.le_refl _) _).setCell (Nat.le_refl _) _
    have K27 := Lib.hid (k27.out W6 ((HS.out.below HB4w.out).below HX7.out))
    have t0 : W6.cell? ⟨w4.heap.size, 0, none⟩ = some (.int .i64 lx) := by
      rw [hW6, World.cell?_setCell_other _ _ _ _ (by simp)]; first | exact World.cell?_setCell_same r0 | exact World.cell?_setCell_same _ _ _ r0
    have t1 : W6.cell? ⟨w4.heap.size, 1, none⟩ = some (.int .i64 ly) := by
      rw [hW6]
      have h := (World.cell?_setCell_other w6 ⟨w4.heap.size, 0, none⟩ ⟨w4.heap.size, 1, none⟩ (.int .i64 lx) (by simp)).trans r1
      first | exact World.cell?_setCell_same h | exact World.cell?_setCell_same _ _ _ h
    have t2 : W6.cell? ⟨w5.heap.size, 0, none⟩ = some (.int .i64 gx) := by
      rw [hW6, World.cell?_setCell_other _ _ _ _ (by first | (simp; done) | (simp; omega)), World.cell?_setCell_other _ _ _ _ (by first | (simp; done) | (simp; omega))]; exact r2
    have t3 : W6.cell? ⟨w5.heap.size, 1, none⟩ = some (.int .i64 gy) := by
      rw [hW6, World.cell?_setCell_other _ _ _ _ (by first | (simp; done) | (simp; omega)), World.cell?_setCell_other _ _ _ _ (by first | (simp; done) | (simp; omega))]; exact r3
    have t4 : Hid (∀ o, w6.frozen? ⟨w5.heap.size, o, none⟩ = false → W6.frozen? ⟨w5.heap.size, o, none⟩ = false) := fun o h => by rw [hW6]; simp [go_sem]; exact h
    have hl6 : w4.heap.size < W6.heap.size ∧ w5.heap.size < W6.heap.size := by
      have h1 := lt_of_cell t0
      have h2 := lt_of_cell t2
      exact ⟨h1, h2⟩
    go_wp2_with fail
    rw [← HW.out]
    refine K27.out.mono ?_
    rintro e w7 ⟨rfl, hb⟩
    obtain ⟨e1, e2⟩ := bcell hb
    have u0 := (e1 _ 0 hl6.1).trans t0
    have u1 := (e1 _ 1 hl6.1).trans t1
    have u2 := (e1 _ 0 hl6.2).trans t2
    have u3 := (e1 _ 1 hl6.2).trans t3
    have g2 := (e2 _ 0 hl6.2).trans (t4.out 0 f2)
    have g3 := (e2 _ 1 hl6.2).trans (t4.out 1 f3)
    have HX8 := Lib.hid (below_step HX7.out hb)
    obtain ⟨W7, hW7⟩ : ∃ W7, W7 = (w7.setCell ⟨w5.heap.size, 0, none⟩ (.int .i64 lx)).setCell ⟨w5.heap.size, 1, none⟩ (.int .i64 ly) := ⟨_, rfl⟩
    have HWW := Lib.hid hW7
    have HX9 : Hid (Below w4.heap.size w4 W7) := by rw [hW7]; exact (HX8.out.setCell (Nat.le_of_lt hsz5) _).setCell (Nat.le_of_lt hsz5) _
    have s2 : W7.cell? ⟨w5.heap.size, 0, none⟩ = some (.int .i64 lx) := by
      rw [hW7, World.cell?_setCell_other _ _ _ _ (by simp)]; first | exact World.cell?_setCell_same u2 | exact World.cell?_setCell_same _ _ _ u2
    have s3 : W7.cell? ⟨w5.heap.size, 1, none⟩ = some (.int .i64 ly) := by
      rw [hW7]
      have h := (World.cell?_setCell_other w7 ⟨w5.heap.size, 0, none⟩ ⟨w5.heap.size, 1, none⟩ (.int .i64 lx) (by simp)).trans u3
      first | exact World.cell?_setCell_same h | exact World.cell?_setCell_same _ _ _ h
    have s0 : W7.cell? ⟨w4.heap.size, 0, none⟩ = some (.int .i64 lx) := by
      rw [hW7, World.cell?_setCell_other _ _ _ _ (by first | (simp; done) | (simp; omega)), World.cell?_setCell_other _ _ _ _ (by first | (simp; done) | (simp; omega))]; exact u0
    have s1 : W7.cell? ⟨w4.heap.size, 1, none⟩ = some (.int .i64 ly) := by
      rw [hW7, World.cell?_setCell_other _ _ _ _ (by first | (simp; done) | (simp; omega)), World.cell?_setCell_other _ _ _ _ (by first | (simp; done) | (simp; omega))]; exact u1
    have K28 : Hid (∀ W, Below w4.heap.size w4 W → Calls Try.prog 28 #[.slice A' n c', .slice A n c] W fun e w' => e = .returned (.bool true) ∧ ∃ k, w' = W.drewN k) := fun W h => by
      have h2 := f28_any A' A n c' n c goal goal W (HI4w.out.below h) ((HS.out.below HB4w.out).below h)
      rwa [decide_eq_true rfl] at h2
    have S4 := Lib.hid (And.intro s0 (And.intro s1 (And.intro s2 s3)))
    clear hb e1 e2 K27 hW6 t0 t1 t2 t3 t4 hl6 r0 r1 r2 r3 f0 f1 f2 f3 hW7 s0 s1 s2 s3
    go_wp2_with fail
    rw [← HWW.out]
    refine (K28.out W7 HX9.out).mono ?_
    rintro e w8 ⟨rfl, dd, rfl⟩
    have HX10 := Lib.hid (below_step HB4w.out (below_drewN HX9.out dd))
    generalize W7.drewN dd = w8 at *
    go_wp2_with fail
    refine (f16_any _).mono ?_
    rintro e w9 ⟨rfl, hb⟩
    have HX11 := Lib.hid (below_step HX10.out hb)
    clear hb
    go_wp2_with fail
    go_ret
    exact ⟨rfl, HX11.out⟩
/-- dibberlaw05.LuckGoals -/
theorem f6_any (k s : Int) (A B : Option Addr) (n c m d : Nat) (goal nights : List Int) (w : World) (hs : Came w A n goal) (hA : A = none → n = 0 ∧ c = 0) (hn : Came w B m nights) (hB : B = none → m = 0 ∧ d = 0) :
    Calls Try.prog 6 #[.int .i64 k, .slice A n c, .slice B m d, .int .i64 s] w fun e w' => e = .returned (.bool true) ∧ Below w.heap.size w w' := by
  by_cases h : 1100 < n ∨ 1100 < m
  · exact f6_long k s A B n c m d w hs.len hn.len h
  · exact f6_short k s A B n c m d goal nights w (hs.2 (by omega)) hA (hn.2 (by omega)) hB (by omega) (by omega)
end Go.Proofs.Ytfaenbaaadjbbaa
