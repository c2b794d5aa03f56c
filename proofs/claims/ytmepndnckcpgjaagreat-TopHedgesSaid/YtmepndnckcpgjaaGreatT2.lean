/- Walks: the plan of one span. -/
import Derived.Test.YtmepndnckcpgjaaGreatT1
namespace Go.Proofs.YtmepndnckcpgjaaGreat
open Go.RowKit
/-- The one span. -/
def Span1 (w : World) (b : Nat) : Prop := w.cell? ⟨b, 0, none⟩ = some (.int .i64 0) ∧ w.cell? ⟨b, 1, none⟩ = some (.int .i64 1) ∧ w.cell? ⟨b, 2, none⟩ = some (.int .i64 1) ∧ w.cell? ⟨b, 3, none⟩ = some (.int .i64 2)
theorem Span1.below {w w' : World} {b : Nat} (h : Span1 w b) (hb : Below w.heap.size w w') : Span1 w' b :=
  ⟨(hb.cell (lt_of_cell h.1)).trans h.1, (hb.cell (lt_of_cell h.2.1)).trans h.2.1, (hb.cell (lt_of_cell h.2.2.1)).trans h.2.2.1, (hb.cell (lt_of_cell h.2.2.2)).trans h.2.2.2⟩
/-- The plan. -/
structure Plan1 (w : World) (p b : Nat) : Prop where
  t : w.cell? ⟨p, 0, none⟩ = some (.int .i64 3)
  n : w.cell? ⟨p, 1, none⟩ = some (.int .i64 2)
  s : w.cell? ⟨p, 2, none⟩ = some (.slice (some ⟨b, 0, none⟩) 1 1)
  span : Span1 w b
theorem Plan1.below {w w' : World} {p b : Nat} (h : Plan1 w p b) (hb : Below w.heap.size w w') : Plan1 w' p b :=
  ⟨(hb.cell (lt_of_cell h.t)).trans h.t, (hb.cell (lt_of_cell h.n)).trans h.n, (hb.cell (lt_of_cell h.s)).trans h.s, h.span.below hb⟩
set_option maxRecDepth 100000 in
set_option maxHeartbeats 4000000 in
/-- turn.of -/
theorem f60_one (b : Nat) (w : World) (h : Span1 w b) :
    Calls Tryz.prog 60 #[.int .i64 3, .int .i64 2, .slice (some ⟨b, 0, none⟩) 1 1] w fun e w' => ∃ p, e = .returned (.tuple #[.pointer (some ⟨p, 0, none⟩), .int .i64 0]) ∧ Plan1 w' p b ∧ Below w.heap.size w w' ∧ w.heap.size ≤ p := by
  have HS := Lib.hid h
  obtain ⟨c0, c1, c2, c3⟩ := h
  go_enter Tryz.func60, Tryz.ntmps60
  go_wp2
  go_loopw [31] (fun i wr => ∃ k : Nat, k ≤ 1 ∧ i = .int .i64 (k : Int) ∧ Hid (Below w.heap.size w wr)) (fun i _ => 1 - (intOf i).toNat)
  case atStart => exact ⟨0, by omega, rfl, Lib.hid (Below.refl _ _)⟩
  case round => as_aux_lemma =>
    obtain ⟨k, hk, rfl, HB⟩ := hrel
    by_cases hk0 : k = 0
    · subst hk0
      obtain ⟨d0, d1, d2, d3⟩ := HS.out.below HB.out
      have HB2 : Hid (Below w.heap.size w (wr.alloc (.cells #[.int .i64 0, .int .i64 1, .int .i64 1, .int .i64 2] 75))) := Lib.hid (HB.out.alloc HB.out.size _)
      go_wp2
      go_roundw
      case rel => exact ⟨1, by omega, by go_num, HB2⟩
      case measure => simp [intOf]
    · obtain rfl : k = 1 := by omega
      go_wp2
      go_ret2
      have hal := below_alloc wr (.cells #[.int .i64 3, .int .i64 2, .slice (some ⟨b, 0, none⟩) 1 1] 131)
      exact ⟨wr.heap.size, rfl, ⟨(cell_new wr _ 131 0).trans rfl, (cell_new wr _ 131 1).trans rfl, (cell_new wr _ 131 2).trans rfl, (HS.out.below HB.out).below hal⟩, below_step HB.out hal, HB.out.size⟩
end Go.Proofs.YtmepndnckcpgjaaGreat
