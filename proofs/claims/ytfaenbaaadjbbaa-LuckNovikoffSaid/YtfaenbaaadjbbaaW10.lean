/- Walks: slices.Clone, guess, Guess (both). -/
import Derived.Test.YtfaenbaaadjbbaaW9
namespace Go.Proofs.Ytfaenbaaadjbbaa
open Go.RowKit

set_option maxRecDepth 100000 in
set_option maxHeartbeats 1000000 in
/-- slices.Clone at ints -/
theorem f81_any (B : Option Addr) (m d : Nat) (xs : List Int) (w : World) (hs : Ints w B m xs) (hnil : B = none → m = 0 ∧ d = 0) (hm : m ≤ 100000) :
    Calls Try.prog 81 #[.slice B m d] w fun e w' => ∃ v, e = .returned v ∧ Row w' w.heap.size v xs ∧ Below w.heap.size w w' := by
  cases B with
  | none =>
    obtain ⟨rfl, rfl⟩ := hnil rfl
    have hx : xs = [] := List.eq_nil_of_length_eq_zero hs.len
    subst hx
    have e0 := Lib.run_eql_slice_nil (P := Try.prog) w 31 3 none 0 0 0 0 Try.underlying31
    clear hs hnil
    go_enter Try.func81, Try.ntmps81
    go_wp2
    go_ret
    exact ⟨_, rfl, Row.nil _ _, Below.refl _ _⟩
  | some a =>
    have e0 := Lib.run_eql_slice_nil (P := Try.prog) w 31 3 (some a) m d 0 0 Try.underlying31
    have HS := Lib.hid hs
    have hl := Lib.hid hs.len
    clear hs hnil
    go_enter Try.func81, Try.ntmps81
    go_wp2_with (at_builtin; refine wpList_pushAll rfl (.tmp 5) (.tmp 6) rfl w.heap.size _ [] rfl (Row.empty w w.heap.size (Nat.le_refl _)) (some a) m d xs rfl ?hn ?hi ?hl ?hb ?hr)
    case hn => exact fun h => by cases h
    case hi => exact HS.out.below (below_alloc _ _)
    case hl => simp; omega
    case hb => simp
    case hr =>
      intro v' w' hr hg
      have HR := Lib.hid hr
      have HB : Hid (Below w.heap.size w w') := below_grown (below_alloc w _) hg (by simp) (Row.empty w w.heap.size (Nat.le_refl _)) (Nat.le_refl _)
      clear hr hg
      go_wp2
      go_ret
      exact ⟨_, rfl, by simpa using HR.out, HB.out⟩
theorem frozen_new (w : World) (cs : Array Value) (t : TypeId) (i : Nat) : (w.alloc (.cells cs t)).frozen? ⟨w.heap.size, i, none⟩ = false := by
  have h : (w.alloc (.cells cs t)).heap[w.heap.size]? = some (.cells cs t (0, 0)) := heap_alloc_new w _
  generalize w.alloc (.cells cs t) = w' at h ⊢
  generalize w.heap.size = g at h ⊢
  simp [World.frozen?, h]
theorem snoc_len {xs : List Int} {m : Nat} (h : xs.length = m) (x : Int) : (xs ++ [x]).length = m + 1 := by simp [h]
theorem all_snoc {xs : List Int} (h : xs.all bitB = true) (x : Int) (hx : x = 0 ∨ x = 1) : (xs ++ [x]).all bitB = true := by
  rw [List.all_append, h]
  simp [bitB]; exact hx
/-- Facts that a guess starts from. -/
theorem blk_at (goal : List Int) (k m : Nat) (nights : List Int) (x : Nat) : blk goal (k - (m + 1)) (bnum (nights ++ [(x : Int)])) = blk goal (k - m - 1) (2 * bnum nights + x) := by
  rw [bnum_snoc]
  have : k - (m + 1) = k - m - 1 := by omega
  rw [this]; simp
set_option maxRecDepth 100000 in
set_option maxHeartbeats 4000000 in
/-- luck.guess -/
theorem f57_any (A B : Option Addr) (k n c m d : Nat) (goal nights : List Int) (w : World) (hs : Ints w A n goal) (hcap : n ≤ c) (hn : Ints w B m nights) (hnil : B = none → m = 0 ∧ d = 0) (hk : k ≤ 10) (hm : m < k) (hl : n = 2 ^ k) (hb : nights.all bitB = true)
    (hg : ∀ i, 0 ≤ goal.getD i 0 ∧ goal.getD i 0 ≤ 600) :
    Calls Try.prog 57 #[.int .i64 (k : Int), .slice A n c, .slice B m d] w (RatOf w (gv k goal m (bnum nights)) (2 * denG k m)) := by
  have hl0 := snoc_len hn.len 0
  have hl1 := snoc_len hn.len 1
  have a0 := all_snoc hb 0 (.inl rfl)
  have a1 := all_snoc hb 1 (.inr rfl)
  have k80z : Hid (∀ (w1 : World) (A1 : Option Addr) (c1 : Nat), Ints w1 A n goal → Ints w1 A1 (m + 1) (nights ++ [0]) → Calls Try.prog 80 #[.int .i64 (k : Int), .slice A n c, .slice A1 (m + 1) c1] w1 fun e w' => e = .returned (.int .i64 (blk goal (k - m - 1) (2 * bnum nights))) ∧ w1 = w') := fun w1 A1 c1 h1 h2 => by
    have := f80_any A A1 k n c (m + 1) c1 goal (nights ++ [0]) w1 h1 hcap h2 hk (by omega) hl a0 hg
    rw [show ([0] : List Int) = [((0 : Nat) : Int)] from rfl, blk_at] at this
    exact this
  have k80o : Hid (∀ (w1 : World) (A1 : Option Addr) (c1 : Nat), Ints w1 A n goal → Ints w1 A1 (m + 1) (nights ++ [1]) → Calls Try.prog 80 #[.int .i64 (k : Int), .slice A n c, .slice A1 (m + 1) c1] w1 fun e w' => e = .returned (.int .i64 (blk goal (k - m - 1) (2 * bnum nights + 1))) ∧ w1 = w') := fun w1 A1 c1 h1 h2 => by
    have := f80_any A A1 k n c (m + 1) c1 goal (nights ++ [1]) w1 h1 hcap h2 hk (by omega) hl a1 hg
    rw [show ([1] : List Int) = [((1 : Nat) : Int)] from rfl, blk_at] at this
    exact this
  have hz := blk_in hg (k - m - 1) (2 * bnum nights) (by omega)
  have ho := blk_in hg (k - m - 1) (2 * bnum nights + 1) (by omega)
  have hgv : Hid ((gv k goal m (bnum nights) : Int) = max 0 (min (2 * (denG k m : Int)) ((denG k m : Int) + blk goal (k - m - 1) (2 * bnum nights) - blk goal (k - m - 1) (2 * bnum nights + 1)))) := by
    unfold gv Hid; omega
  have hdp := denG_pos k m
  have hd2 : denG k m ≤ 30720 := by rcases denG_le (m := m) hk with h | h <;> omega
  have hD : IntKind.i64.wrap ((60 : Int) * 2 ^ (k - m - 1)) = (denG k m : Int) := by
    have e : (60 : Int) * 2 ^ (k - m - 1) = (denG k m : Int) := by unfold denG; simp
    rw [e]; exact IntWalk.i64_in _ (by omega)
  generalize blk goal (k - m - 1) (2 * bnum nights) = z at *
  generalize blk goal (k - m - 1) (2 * bnum nights + 1) = o at *
  generalize gv k goal m (bnum nights) = G at *
  generalize denG k m = D at *
  obtain ⟨E, hE⟩ : ∃ E, E = 2 * D := ⟨_, rfl⟩
  have hE2 : 2 * (D : Int) = (E : Int) := by omega
  rw [← hE]
  have k52 := Lib.hid (fun w => f52_any G E w (by have := hgv.out; omega) (by omega) (by omega))
  have HS := Lib.hid (hs.below (below_alloc w (.cells #[.int .i64 0, .int .i64 0] 26)))
  have HN := Lib.hid (hn.below (below_alloc w (.cells #[.int .i64 0, .int .i64 0] 26)))
  have HNIL := Lib.hid hnil
  have HL0 := Lib.hid hl0
  have HL1 := Lib.hid hl1
  have hlen : Hid (nights.length = m) := hn.len
  have hkm : (0 : Int) ≤ (k : Int) - (m : Int) - 1 := by omega
  have hE3 := Lib.hid hE
  have hms := hn.small
  have hns := hs.small
  have k81 := Lib.hid (fun w1 h => f81_any B m d nights w1 h hnil (by omega))
  have b0 := Lib.hid (below_alloc w (.cells #[.int .i64 0, .int .i64 0] 26))
  clear hs hn hnil hl hb hg hl0 hl1 a0 a1 hE
  go_enter Try.func57, Try.ntmps57
  go_wp2_with fail
  obtain ⟨w0, hw0⟩ : ∃ w0, w0 = w.alloc (.cells #[.int .i64 0, .int .i64 0] 26) := ⟨_, rfl⟩
  have hz0 : w.heap.size < w0.heap.size := by rw [hw0]; simp
  have q0 : w0.cell? ⟨w.heap.size, 0, none⟩ = some (.int .i64 0) := by rw [hw0]; exact cell_new _ _ _ _
  have q1 : w0.cell? ⟨w.heap.size, 1, none⟩ = some (.int .i64 0) := by rw [hw0]; exact cell_new _ _ _ _
  have f0 : Hid (∀ o, w0.frozen? ⟨w.heap.size, o, none⟩ = false) := fun o => by rw [hw0]; exact frozen_new _ _ _ _
  have f00 := f0.out 0
  have f01 := f0.out 1
  rw [← hw0] at HS HN b0
  rw [← hw0]
  clear hw0 f0
  refine (k81.out _ HN.out).mono ?_
  rintro e w1 ⟨v1, rfl, hr, hb⟩
  have HR := Lib.hid hr
  have B1 := Lib.hid hb
  have hsz1 := hb.size
  clear hr hb
  go_wp2_with (at_builtin; refine wpList_push rfl (.tmp 13) (.tmp 14) rfl w0.heap.size _ nights rfl (HR.out.alloc _) w1.heap.size 1 0 rfl ?hc ?hl ?hb ?hr)
  case hc => exact cell_new w1 _ 3 0
  case hl => rw [hlen.out]; omega
  case hb => simp; omega
  case hr =>
    intro v2 w2 hr hg
    have B2 : Hid (Below w0.heap.size w0 w2) := below_grown (B1.out.alloc hsz1 _) hg (by simp; omega) (HR.out.alloc _) (Nat.le_refl _)
    obtain ⟨A2, c2, hv2, hi2⟩ := hr.form
    have hi2 := hi2 100 (by rw [HL0.out]; omega) (by omega)
    rw [HL0.out] at hv2 hi2
    subst hv2
    have HI2 := Lib.hid hi2
    clear hr hg hi2
    go_wp2_with fail
    refine (k80z.out _ _ _ (HS.out.below B2.out) HI2.out).mono ?_
    rintro e w3 ⟨rfl, rfl⟩
    go_wp2_with fail
    refine (k81.out _ (HN.out.below B2.out)).mono ?_
    rintro e w3 ⟨v3, rfl, hr, hb⟩
    have HR3 := Lib.hid hr
    have B3 := Lib.hid (below_step B2.out hb)
    have hsz2 := B2.out.size
    have hsz3 := hb.size
    clear hr hb
    go_wp2_with (at_builtin; refine wpList_push rfl (.tmp 20) (.tmp 21) rfl w2.heap.size _ nights rfl (HR3.out.alloc _) w3.heap.size 1 1 rfl ?hc ?hl ?hb ?hr)
    case hc => exact cell_new w3 _ 3 0
    case hl => rw [hlen.out]; omega
    case hb => simp; omega
    case hr =>
      intro v4 w4 hr hg
      have B4 : Hid (Below w0.heap.size w0 w4) := below_grown (B3.out.alloc (by omega) _) hg (by simp; omega) (HR3.out.alloc _) hsz2
      obtain ⟨A4, c4, hv4, hi4⟩ := hr.form
      have hi4 := hi4 100 (by rw [HL1.out]; omega) (by omega)
      rw [HL1.out] at hv4 hi4
      subst hv4
      have HI4 := Lib.hid hi4
      have hb4 := B4.out
      obtain ⟨hc1, hc2⟩ := bcell hb4
      have g0 := (hc1 _ 0 hz0).trans q0
      have g1 := (hc1 _ 1 hz0).trans q1
      have g2 := (hc2 _ 0 hz0).trans f00
      have g3 := (hc2 _ 1 hz0).trans f01
      clear hr hg hi4 hb4 hc1 hc2
      go_wp2_with fail
      refine (k80o.out _ _ _ (HS.out.below B4.out) HI4.out).mono ?_
      rintro e w5 ⟨rfl, rfl⟩
      have hgG : (G : Int) = max 0 (min (E : Int) ((D : Int) + z - o)) := by rw [← hE2]; exact hgv.out
      have hsz4 := B4.out.size
      have hfin : Hid (∀ w6 u v, Below w4.heap.size w4 w6 → Below w.heap.size w ((w6.setCell ⟨w.heap.size, 0, none⟩ u).setCell ⟨w.heap.size, 1, none⟩ v)) := fun w6 u v h =>
        ((below_step b0.out (below_step B4.out h)).setCell (Nat.le_refl _) _).setCell (Nat.le_refl _) _
      rcases Int.lt_or_le ((D : Int) + z - o) 0 with ht | ht
      · have hG0 : G = 0 := by omega
        subst hG0
        clear hgG
        go_wp2_with fail
        refine (k52.out _).mono ?_
        rintro e w6 ⟨rfl, hb6⟩
        have HB6 := Lib.hid hb6
        obtain ⟨hc1, hc2⟩ := bcell hb6
        have r0 := (hc1 _ 0 (by omega)).trans g0
        have r1 := (hc1 _ 1 (by omega)).trans g1
        have r2 := (hc2 _ 0 (by omega)).trans g2
        have r3 := (hc2 _ 1 (by omega)).trans g3
        clear hb6 hc1 hc2 g0 g1 g2 g3 q0 q1 f00 f01
        go_wp2_with fail
        refine bodyPost_ret (v := .agg #[.int .i64 (ratN 0 E : Int), .int .i64 (ratD 0 E : Int)]) (by simp [results, Try.results57, go_sem, r0, r1]) rfl ⟨rfl, hfin.out _ _ _ HB6.out⟩
      rcases Int.lt_or_le (E : Int) ((D : Int) + z - o) with ht2 | ht2
      · have hG0 : G = E := by omega
        subst hG0
        clear hgG
        go_wp2_with fail
        refine (k52.out _).mono ?_
        rintro e w6 ⟨rfl, hb6⟩
        have HB6 := Lib.hid hb6
        obtain ⟨hc1, hc2⟩ := bcell hb6
        have r0 := (hc1 _ 0 (by omega)).trans g0
        have r1 := (hc1 _ 1 (by omega)).trans g1
        have r2 := (hc2 _ 0 (by omega)).trans g2
        have r3 := (hc2 _ 1 (by omega)).trans g3
        clear hb6 hc1 hc2 g0 g1 g2 g3 q0 q1 f00 f01
        go_wp2_with fail
        refine bodyPost_ret (v := .agg #[.int .i64 (ratN G G : Int), .int .i64 (ratD G G : Int)]) (by simp [results, Try.results57, go_sem, r0, r1]) rfl ⟨rfl, hfin.out _ _ _ HB6.out⟩
      · have hG0 : (D : Int) + z - o = (G : Int) := by omega
        clear hgG
        go_wp2_with fail
        refine (k52.out _).mono ?_
        rintro e w6 ⟨rfl, hb6⟩
        have HB6 := Lib.hid hb6
        obtain ⟨hc1, hc2⟩ := bcell hb6
        have r0 := (hc1 _ 0 (by omega)).trans g0
        have r1 := (hc1 _ 1 (by omega)).trans g1
        have r2 := (hc2 _ 0 (by omega)).trans g2
        have r3 := (hc2 _ 1 (by omega)).trans g3
        clear hb6 hc1 hc2 g0 g1 g2 g3 q0 q1 f00 f01
        go_wp2_with fail
        refine bodyPost_ret (v := .agg #[.int .i64 (ratN G E : Int), .int .i64 (ratD G E : Int)]) (by simp [results, Try.results57, go_sem, r0, r1]) rfl ⟨rfl, hfin.out _ _ _ HB6.out⟩
end Go.Proofs.Ytfaenbaaadjbbaa
