/- Walks: the plans of one span, visited. -/
import Derived.Test.YtmepndnckcpgjaaGreatT3
import Derived.ArgAppend
import Derived.Defers
import Derived.WalkMore
import Derived.Deep.RegionHeld3
namespace Go.Proofs.YtmepndnckcpgjaaGreat
open Go.RowKit
/-- append of one number to a slice that has room. -/
theorem wpList_room {w : World} {ops : Array Oper} {rest : List Oper} {o : Oper} {a : Act} {Q : Exit → Act → World → Prop} (hgd : o.guard = none) (s x : Operand)
    (ho : o.op = .call { callee := .builtin .append, args := #[s, x], argTypes := #[23, 23] })
    (g n cap : Nat) (hs : a.eval s = .slice (some ⟨g, 0, none⟩) n cap) (q c : Nat) (y : Int) (hx : a.eval x = .slice (some ⟨q, 0, none⟩) 1 c)
    (hc : w.cell? ⟨q, 0, none⟩ = some (.int .i64 y)) (hr : n + 1 ≤ cap) (h1 : (w.cell? ⟨g, n, none⟩).isSome = true) (h2 : w.frozen? ⟨g, n, none⟩ = false)
    (h : wpList Tryz.prog ops Q rest (a.put o.dst (.slice (some ⟨g, 0, none⟩) (n + 1) cap)) (w.setCell ⟨g, n, none⟩ (.int .i64 y))) : wpList Tryz.prog ops Q (o :: rest) a w := by
  obtain ⟨i0, hi0, hz0, hz1, hz2⟩ := info_parts (show (Tryz.prog.info? 3).map (fun i => (i.zero, i.size, i.bytes)) = some (some (.int .i64 0), 1, 8) from by kernel_rfl)
  refine wpList_plain hgd fun K hK' => ?_
  have hrun := run_append_room_cells (P := Tryz.prog) w 23 o.type 3 i0 Tryz.underlying23 hi0 g 0 n cap ⟨q, 0, none⟩ 1 c [.int .i64 y] (by rw [hz1]; rfl) (fun j u hj => by
    match j, hj with
    | 0, hj => simp at hj; subst hj; simpa [Addr.add] using hc) (fun u hu => by simp at hu; subst hu; rfl) hr
    (fun j hj => by
      have : j = 0 := by simpa using hj
      subst this
      simpa [hz1] using h1) (fun j hj => by
      have : j = 0 := by simpa using hj
      subst this
      simpa [hz1] using h2)
  unfold Oper.wp
  simp [execOp, ho, resolve, invoke, builtin, hs, hx, hrun, Result.andThen]
  refine hK' _ _ ?_
  simpa [hz1, World.setCells] using h
/-- A store into an old cell, made in both worlds. -/
theorem below_both {n : Nat} {W W2 : World} (h : Below n W W2) {p : Addr} (v : Value) : Below n (W.setCell p v) (W2.setCell p v) :=
  ⟨h.os, h.tape, h.output, by simpa [World.setCell] using h.size, fun i hi => by simp only [World.setCell, Array.getElem?_modify, h.block i hi]⟩
section
variable (p mb pv vv ap hb hv ov : Nat)
/-- What each works with. -/
structure TS (W : World) (m : Int) (len : Nat) : Prop where
  ord : p < mb ∧ mb < pv ∧ pv < vv ∧ vv < ap ∧ ap < hb ∧ hb < hv ∧ hv < ov
  p0 : W.cell? ⟨p, 0, none⟩ = some (.int .i64 3)
  p1 : W.cell? ⟨p, 1, none⟩ = some (.int .i64 2)
  cm : W.cell? ⟨mb, 0, none⟩ = some (.int .i64 m)
  cmf : W.frozen? ⟨mb, 0, none⟩ = false
  cpv : W.cell? ⟨pv, 0, none⟩ = some (.pointer (some ⟨p, 0, none⟩))
  cvv : W.cell? ⟨vv, 0, none⟩ = some (.func (.func 62) #[] #[.pointer (some ⟨mb, 0, none⟩)])
  cap : MatI W ap fun x => (apN x : Int)
  chv : W.cell? ⟨hv, 0, none⟩ = some (.slice (some ⟨hb, 0, none⟩) len 2)
  chf : W.frozen? ⟨hv, 0, none⟩ = false
  b0 : ∃ x, W.cell? ⟨hb, 0, none⟩ = some (.int .i64 x)
  b1 : ∃ x, W.cell? ⟨hb, 1, none⟩ = some (.int .i64 x)
  f1 : W.frozen? ⟨hb, 1, none⟩ = false
  cov : W.cell? ⟨ov, 0, none⟩ = some (.func (.func 93) #[] #[.pointer (some ⟨hv, 0, none⟩), .pointer (some ⟨pv, 0, none⟩), .pointer (some ⟨vv, 0, none⟩), .pointer (some ⟨ap, 0, none⟩), .pointer (some ⟨ov, 0, none⟩)])
variable {p mb pv vv ap hb hv ov}
theorem frozen_below {n : Nat} {W W' : World} (h : Below n W W') {a : Addr} (ha : a.block < n) : W'.frozen? a = W.frozen? a := by
  simp only [World.frozen?, h.block _ ha]
theorem TS.lt {W : World} {m : Int} {len : Nat} (h : TS p mb pv vv ap hb hv ov W m len) : ov < W.heap.size := lt_of_cell h.cov
theorem TS.below {W W' : World} {m : Int} {len : Nat} (h : TS p mb pv vv ap hb hv ov W m len) (k : Below W.heap.size W W') : TS p mb pv vv ap hb hv ov W' m len := by
  have hl := h.lt
  have ho := h.ord
  obtain ⟨x, hx⟩ := h.b0
  obtain ⟨y, hy⟩ := h.b1
  exact ⟨ho, (k.cell (by simp only; omega)).trans h.p0, (k.cell (by simp only; omega)).trans h.p1, (k.cell (by simp only; omega)).trans h.cm, (frozen_below k (by simp only; omega)).trans h.cmf,
    (k.cell (by simp only; omega)).trans h.cpv, (k.cell (by simp only; omega)).trans h.cvv, h.cap.below k, (k.cell (by simp only; omega)).trans h.chv, (frozen_below k (by simp only; omega)).trans h.chf,
    ⟨x, (k.cell (by simp only; omega)).trans hx⟩, ⟨y, (k.cell (by simp only; omega)).trans hy⟩, (frozen_below k (by simp only; omega)).trans h.f1, (k.cell (by simp only; omega)).trans h.cov⟩
theorem TS.drewN {W : World} {m : Int} {len : Nat} (h : TS p mb pv vv ap hb hv ov W m len) (k : Nat) : TS p mb pv vv ap hb hv ov (W.drewN k) m len := ⟨h.ord, h.p0, h.p1, h.cm, h.cmf, h.cpv, h.cvv, h.cap, h.chv, h.chf, h.b0, h.b1, h.f1, h.cov⟩
theorem frozen_set (W : World) (a b : Addr) (v : Value) : (W.setCell a v).frozen? b = W.frozen? b := World.frozen?_setCell ..
/-- one more. -/
theorem TS.setM {W : World} {m : Int} {len : Nat} (h : TS p mb pv vv ap hb hv ov W m len) (m' : Int) : TS p mb pv vv ap hb hv ov (W.setCell ⟨mb, 0, none⟩ (.int .i64 m')) m' len := by
  have ho := h.ord
  obtain ⟨x, hx⟩ := h.b0
  obtain ⟨y, hy⟩ := h.b1
  exact ⟨ho, (World.cell?_setCell_far _ _ _ _ (by simp only; omega)).trans h.p0, (World.cell?_setCell_far _ _ _ _ (by simp only; omega)).trans h.p1, World.cell?_setCell_same _ _ _ h.cm, (frozen_set _ _ _ _).trans h.cmf,
    (World.cell?_setCell_far _ _ _ _ (by simp only; omega)).trans h.cpv, (World.cell?_setCell_far _ _ _ _ (by simp only; omega)).trans h.cvv, h.cap.far (by simp only; omega) _, (World.cell?_setCell_far _ _ _ _ (by simp only; omega)).trans h.chv, (frozen_set _ _ _ _).trans h.chf,
    ⟨x, (World.cell?_setCell_far _ _ _ _ (by simp only; omega)).trans hx⟩, ⟨y, (World.cell?_setCell_far _ _ _ _ (by simp only; omega)).trans hy⟩, (frozen_set _ _ _ _).trans h.f1, (World.cell?_setCell_far _ _ _ _ (by simp only; omega)).trans h.cov⟩
/-- another number of hours given. -/
theorem TS.setLen {W : World} {m : Int} {len : Nat} (h : TS p mb pv vv ap hb hv ov W m len) (len' : Nat) : TS p mb pv vv ap hb hv ov (W.setCell ⟨hv, 0, none⟩ (.slice (some ⟨hb, 0, none⟩) len' 2)) m len' := by
  have ho := h.ord
  obtain ⟨x, hx⟩ := h.b0
  obtain ⟨y, hy⟩ := h.b1
  exact ⟨ho, (World.cell?_setCell_far _ _ _ _ (by simp only; omega)).trans h.p0, (World.cell?_setCell_far _ _ _ _ (by simp only; omega)).trans h.p1, (World.cell?_setCell_far _ _ _ _ (by simp only; omega)).trans h.cm, (frozen_set _ _ _ _).trans h.cmf,
    (World.cell?_setCell_far _ _ _ _ (by simp only; omega)).trans h.cpv, (World.cell?_setCell_far _ _ _ _ (by simp only; omega)).trans h.cvv, h.cap.far (by simp only; omega) _, World.cell?_setCell_same _ _ _ h.chv, (frozen_set _ _ _ _).trans h.chf,
    ⟨x, (World.cell?_setCell_far _ _ _ _ (by simp only; omega)).trans hx⟩, ⟨y, (World.cell?_setCell_far _ _ _ _ (by simp only; omega)).trans hy⟩, (frozen_set _ _ _ _).trans h.f1, (World.cell?_setCell_far _ _ _ _ (by simp only; omega)).trans h.cov⟩
/-- an hour written. -/
theorem TS.setB {W : World} {m : Int} {len : Nat} (h : TS p mb pv vv ap hb hv ov W m len) (z : Int) : TS p mb pv vv ap hb hv ov (W.setCell ⟨hb, 1, none⟩ (.int .i64 z)) m len := by
  have ho := h.ord
  obtain ⟨x, hx⟩ := h.b0
  obtain ⟨y, hy⟩ := h.b1
  exact ⟨ho, (World.cell?_setCell_far _ _ _ _ (by simp only; omega)).trans h.p0, (World.cell?_setCell_far _ _ _ _ (by simp only; omega)).trans h.p1, (World.cell?_setCell_far _ _ _ _ (by simp only; omega)).trans h.cm, (frozen_set _ _ _ _).trans h.cmf,
    (World.cell?_setCell_far _ _ _ _ (by simp only; omega)).trans h.cpv, (World.cell?_setCell_far _ _ _ _ (by simp only; omega)).trans h.cvv, h.cap.far (by simp only; omega) _, (World.cell?_setCell_far _ _ _ _ (by simp only; omega)).trans h.chv, (frozen_set _ _ _ _).trans h.chf,
    ⟨x, (World.cell?_setCell_other _ _ _ _ (by simp)).trans hx⟩, ⟨z, World.cell?_setCell_same _ _ _ hy⟩, (frozen_set _ _ _ _).trans h.f1, (World.cell?_setCell_far _ _ _ _ (by simp only; omega)).trans h.cov⟩
end
set_option maxRecDepth 100000 in
set_option maxHeartbeats 2000000 in
/-- Plans$1 -/
theorem f62_any (mb : Nat) (A : Option Addr) (n c : Nat) (m : Int) (w : World) (h : w.cell? ⟨mb, 0, none⟩ = some (.int .i64 m)) (hf : w.frozen? ⟨mb, 0, none⟩ = false) (hm : 0 ≤ m ∧ m < 1000) :
    Calls Tryz.prog 62 #[.slice A n c, .pointer (some ⟨mb, 0, none⟩)] w fun e w' => e = .returned (.bool false) ∧ w' = w.setCell ⟨mb, 0, none⟩ (.int .i64 (m + 1)) := by
  have w1 : IntKind.i64.wrap (m + 1) = m + 1 := IntWalk.i64_in _ (by omega)
  have hq : decide (1000000 < m + 1) = false := by simp; omega
  have hq2 : ¬ (1000000 < m + 1) := by omega
  go_enter Tryz.func62, Tryz.ntmps62
  go_wp2
  go_ret
  exact ⟨by simp, rfl⟩
set_option maxRecDepth 100000 in
set_option maxHeartbeats 2000000 in
/-- each$1$1 -/
theorem t94_any (hv iv hb : Nat) (n : Nat) (u : FrameMode) (w : World) (h : w.cell? ⟨hv, 0, none⟩ = some (.slice (some ⟨hb, 0, none⟩) n 2)) (hf : w.frozen? ⟨hv, 0, none⟩ = false) (hi : w.cell? ⟨iv, 0, none⟩ = some (.int .i64 1)) :
    CallsD Tryz.prog 94 #[.pointer (some ⟨hv, 0, none⟩), .pointer (some ⟨iv, 0, none⟩)] u w fun e u' w' => u' = u ∧ (e = .returned (.tuple #[]) ∧ w' = w.setCell ⟨hv, 0, none⟩ (.slice (some ⟨hb, 0, none⟩) 1 2)) := by
  go_enter_d Tryz.func94, Tryz.ntmps94
  go_wp2
  go_end0
  exact ⟨rfl, rfl⟩
section
variable {p mb pv vv ap hb hv ov : Nat}
set_option maxRecDepth 100000 in
set_option maxHeartbeats 4000000 in
/-- each$1, all hours given. -/
theorem f93_leaf (L : Array Value) (_hL : L.size = 6) (W : World) (m : Int) (h : TS p mb pv vv ap hb hv ov W m 2) (hm : 0 ≤ m ∧ m < 1000) :
    Calls Tryz.prog 93 #[.agg L, .pointer (some ⟨hv, 0, none⟩), .pointer (some ⟨pv, 0, none⟩), .pointer (some ⟨vv, 0, none⟩), .pointer (some ⟨ap, 0, none⟩), .pointer (some ⟨ov, 0, none⟩)] W fun e w' =>
      e = .returned (.bool false) ∧ Below W.heap.size (W.setCell ⟨mb, 0, none⟩ (.int .i64 (m + 1))) w' := by
  have H := Lib.hid h
  have c1 := h.chv
  have c2 := h.cpv
  have c3 := h.p1
  have c4 := h.cvv
  clear h
  have n0 := below_alloc W (.cells L 133)
  have n1 := below_step n0 (below_alloc (W.alloc (.cells L 133)) (.cells #[.int .i64 2] 3))
  have d0 := (H.out.below n0).chv
  have d1 := (H.out.below n1).chv
  have d2 := (H.out.below n1).cpv
  have d3 := (H.out.below n1).p1
  have d4 := (H.out.below n1).cvv
  have HN := Lib.hid n1
  have K62 : Hid (∀ k, Calls Tryz.prog 62 #[.slice (some ⟨hb, 0, none⟩) 2 2, .pointer (some ⟨mb, 0, none⟩)] (((W.alloc (.cells L 133)).alloc (.cells #[.int .i64 2] 3)).drewN k) fun e w' => e = .returned (.bool false) ∧ w' = (((W.alloc (.cells L 133)).alloc (.cells #[.int .i64 2] 3)).drewN k).setCell ⟨mb, 0, none⟩ (.int .i64 (m + 1))) := Lib.hid fun k => f62_any mb (some ⟨hb, 0, none⟩) 2 2 m _ (H.out.below n1).cm (H.out.below n1).cmf hm
  have e62 : ∀ (args : Array Value) (w : World), (callFunc 62 args).run Tryz.prog w = .ok (.enter 62 args) w := fun args w => by simp [go_sem]
  clear n0 n1
  go_enter_defers Tryz.func93, Tryz.ntmps93
  go_wp2
  go_step3
  go_wp2
  go_quiet (fail)
  go_wp2_with fail
  refine Calls.mono (K62.out _) ?_
  rintro e w1 ⟨rfl, rfl⟩
  go_wp2
  exact ⟨_, results_tmp rfl _ _ _, rfl, below_both (below_drewN HN.out _) _⟩
set_option maxRecDepth 100000 in
set_option maxHeartbeats 8000000 in
/-- each$1, from the first hour on. -/
theorem f93_top (W : World) (h : TS p mb pv vv ap hb hv ov W 0 1) :
    Calls Tryz.prog 93 #[.agg #[.int .u32 1, .int .u32 6, .int .u32 0, .int .u32 0, .int .u32 0, .int .u32 0], .pointer (some ⟨hv, 0, none⟩), .pointer (some ⟨pv, 0, none⟩), .pointer (some ⟨vv, 0, none⟩), .pointer (some ⟨ap, 0, none⟩), .pointer (some ⟨ov, 0, none⟩)] W fun e w' =>
      e = .returned (.bool false) ∧ TS p mb pv vv ap hb hv ov w' 2 1 ∧ Below p W w' := by
  have H := Lib.hid h
  have hlt := h.lt
  have hord := h.ord
  clear h
  obtain ⟨L, hL⟩ : ∃ L : Array Value, L = #[.int .u32 1, .int .u32 6, .int .u32 0, .int .u32 0, .int .u32 0, .int .u32 0] := ⟨_, rfl⟩
  rw [← hL]
  have HL := Lib.hid hL
  clear hL
  have n0 := below_alloc W (.cells L 133)
  have c1 := H.out.chv
  have d0 := (H.out.below n0).chv
  have n1 := below_step n0 (below_alloc (W.alloc (.cells L 133)) (.cells #[.int .i64 1] 3))
  have d1 := (H.out.below n1).chv
  have d2 := (H.out.below n1).cpv
  have d3 := (H.out.below n1).p1
  have HN := Lib.hid n1
  have hmf : ∀ (fn : Fn) (first cap : Array Value) (w : World), (Instr.makeFunc fn first cap).run Tryz.prog w = .ok (.func fn first cap) w := fun _ _ _ _ => rfl
  clear n0 n1
  go_enter_defers Tryz.func93, Tryz.ntmps93
  go_wp2
  go_step3
  go_wp2
  go_quiet (fail)
  generalize hW2 : ((W.alloc (.cells L 133)).alloc (.cells #[.int .i64 1] 3)).drewN nq = W2
  have h2 := (H.out.below HN.out).drewN nq
  have b2 := below_drewN HN.out nq
  have l2 : W2.heap[W.heap.size]? = some (.cells L 133 (0, 0)) := by
    rw [← hW2]
    exact (Below.heap_alloc _ _ W.heap.size (by simp)).trans (heap_alloc_new W _)
  have i2 : W2.cell? ⟨W.heap.size + 1, 0, none⟩ = some (.int .i64 1) := by
    rw [← hW2]
    simp
  rw [hW2] at h2 b2
  clear hW2 c1 d0 d1 d2 d3
  have H2 := Lib.hid h2
  have B2 := Lib.hid b2
  have L2 := Lib.hid l2
  have I2 := Lib.hid i2
  have n3 := below_alloc W2 (.cells #[.int .i64 0] 3)
  have g1 := h2.chv
  have g2 := (h2.below n3).chv
  obtain ⟨y, g3⟩ := (h2.below n3).b1
  have g4 := (h2.below n3).f1
  have g5 := (h2.below n3).chf
  have g6 : hv ≠ hb := by omega
  have g7 : hb ≠ hv := by omega
  clear l2 i2 n3 h2 b2
  go_wp2
  go_step3
  generalize hW3 : ((W2.alloc (.cells #[.int .i64 0] 3)).setCell ⟨hb, 1, none⟩ (.int .i64 0)).setCell ⟨hv, 0, none⟩ (.slice (some ⟨hb, 0, none⟩) 2 2) = W3
  have n3 := below_alloc W2 (.cells #[.int .i64 0] 3)
  have h3 := ((H2.out.below n3).setB 0).setLen 2
  have b3 := ((B2.out.mono (Nat.le_of_lt (show p < W.heap.size by omega))).trans (n3.mono (show p ≤ W2.heap.size by have := H2.out.lt; omega)) |>.setCell (p := ⟨hb, 1, none⟩) (by simp only; omega) (.int .i64 0)).setCell (p := ⟨hv, 0, none⟩) (by simp only; omega) (.slice (some ⟨hb, 0, none⟩) 2 2)
  have hlt2 : W.heap.size + 1 < W2.heap.size := by have := lt_of_cell I2.out; exact this
  have l3 : W3.heap[W.heap.size]? = some (.cells L 133 (0, 0)) := by
    rw [← hW3]
    exact (Below.heap_setCell _ ⟨hv, 0, none⟩ _ _ (by simp only; omega)).trans ((Below.heap_setCell _ ⟨hb, 1, none⟩ _ _ (by simp only; omega)).trans ((n3.block _ (by omega)).trans L2.out))
  have i3 : W3.cell? ⟨W.heap.size + 1, 0, none⟩ = some (.int .i64 1) := by
    rw [← hW3]
    exact (World.cell?_setCell_far _ _ _ _ (by simp only; omega)).trans ((World.cell?_setCell_far _ _ _ _ (by simp only; omega)).trans ((n3.cell (by simp only; omega)).trans I2.out))
  rw [hW3] at h3 b3
  have H3 := Lib.hid h3
  have B3 := Lib.hid b3
  have L3 := Lib.hid l3
  have I3 := Lib.hid i3
  have e1 := h3.cpv
  have e2 := h3.p0
  clear h3 b3 l3 i3 hW3 n3 g1 g2 g3 g4 g5
  go_wp2
  go_loopw [31] (fun hi wr => ∃ h : Nat, h ≤ 3 ∧ hi = .int .i64 (h : Int) ∧ Hid (TS p mb pv vv ap hb hv ov wr ((h - 1 : Nat) : Int) 2) ∧ Hid (Below p W wr) ∧ Hid (wr.heap[W.heap.size]? = some (.cells L 133 (0, 0))) ∧ Hid (wr.cell? ⟨W.heap.size + 1, 0, none⟩ = some (.int .i64 1))) (fun hi _ => 3 - (intOf hi).toNat)
  case atStart => exact ⟨0, by omega, rfl, H3, B3, L3, I3⟩
  case round => as_aux_lemma =>
    obtain ⟨h, hh, rfl, H4, B4, L4, I4⟩ := hrel
    by_cases hh3 : h < 3
    · have hq : h = 0 ∨ h = 1 ∨ h = 2 := by omega
      have ci := I4.out
      have cl : wr.cell? ⟨W.heap.size, 1, none⟩ = some (.int .u32 6) := by
        rw [cell_of_row wr W.heap.size 1 L 133 (0, 0) L4.out, HL.out]
        rfl
      rcases hq with rfl | rfl | rfl
      · have hbit : (bits BinOp.and IntKind.u32 6 1 == 0) = true := by decide
        go_wp2
        go_quiet (fail)
        go_wp2
        go_roundw
        case rel => exact ⟨1, by omega, by go_num, H4.out.drewN _, below_drewN B4.out _, L4, I4⟩
        case measure => simp [intOf]
      · have hbit : (bits BinOp.and IntKind.u32 6 2 == 0) = false := by decide
        go_wp2
        go_quiet (fail)
        generalize hW5 : wr.drewN nq = W5
        have h5 := H4.out.drewN nq
        have b5 := below_drewN B4.out nq
        have l5 : W5.heap[W.heap.size]? = some (.cells L 133 (0, 0)) := by
          rw [← hW5]
          exact L4.out
        have i5 : W5.cell? ⟨W.heap.size + 1, 0, none⟩ = some (.int .i64 1) := by
          rw [← hW5]
          exact I4.out
        rw [hW5] at h5 b5
        have H5 := Lib.hid h5
        have B5 := Lib.hid b5
        have L5 := Lib.hid l5
        have I5 := Lib.hid i5
        have k0 : W5.cell? ⟨W.heap.size, 0, none⟩ = some (.int .u32 1) := by
          rw [cell_of_row W5 W.heap.size 0 L 133 (0, 0) l5, HL.out]
          rfl
        have k1 : W5.cell? ⟨W.heap.size, 1, none⟩ = some (.int .u32 6) := by
          rw [cell_of_row W5 W.heap.size 1 L 133 (0, 0) l5, HL.out]
          rfl
        have k2 : W5.cell? ⟨W.heap.size, 2, none⟩ = some (.int .u32 0) := by
          rw [cell_of_row W5 W.heap.size 2 L 133 (0, 0) l5, HL.out]
          rfl
        have k3 : W5.cell? ⟨W.heap.size, 3, none⟩ = some (.int .u32 0) := by
          rw [cell_of_row W5 W.heap.size 3 L 133 (0, 0) l5, HL.out]
          rfl
        have k4 : W5.cell? ⟨W.heap.size, 4, none⟩ = some (.int .u32 0) := by
          rw [cell_of_row W5 W.heap.size 4 L 133 (0, 0) l5, HL.out]
          rfl
        have k5 : W5.cell? ⟨W.heap.size, 5, none⟩ = some (.int .u32 0) := by
          rw [cell_of_row W5 W.heap.size 5 L 133 (0, 0) l5, HL.out]
          rfl
        have n6 := below_alloc W5 (.cells #[.int .u32 1, .int .u32 6, .int .u32 0, .int .u32 0, .int .u32 0, .int .u32 0] 133)
        have N6 := Lib.hid n6
        have h6 := h5.below n6
        have i6 := (n6.cell (lt_of_cell i5)).trans i5
        go_wp2_with fail
        generalize hW6 : W5.alloc (.cells #[.int .u32 1, .int .u32 6, .int .u32 0, .int .u32 0, .int .u32 0, .int .u32 0] 133) = W6
        have r6 : W6.heap[W5.heap.size]? = some (.cells #[.int .u32 1, .int .u32 6, .int .u32 0, .int .u32 0, .int .u32 0, .int .u32 0] 133 (0, 0)) := by
          rw [← hW6]
          exact heap_alloc_new W5 _
        rw [hW6] at h6 i6 N6
        have l6 : W.heap.size + 1 < W5.heap.size := lt_of_cell i5
        have l66 := N6.out.size
        have e7 : W5.heap.size ≠ hb := by omega
        have e8 : hb ≠ W5.heap.size := by omega
        have H6 := Lib.hid h6
        have I6 := Lib.hid i6
        have L6 : Hid (W6.heap[W.heap.size]? = some (.cells L 133 (0, 0))) := Lib.hid ((N6.out.block _ (by omega)).trans l5)
        have B6 : Hid (Below p W W6) := Lib.hid (b5.trans (N6.out.mono (by omega)))
        generalize W5.heap.size = q at *
        have e1 := h6.cpv
        have e2 := h6.p1
        clear hW5 h5 b5 l5 i5 n6 h6 ci cl k0 k1 k2 k3 k4 k5
        go_loopw [11] (fun kv wq => kv = .int .i64 2 ∧ W6 = wq) (fun _ _ => 0)
        case atStart => exact ⟨rfl, rfl⟩
        case round => as_aux_lemma =>
          obtain ⟨rfl, rfl⟩ := hrel
          have e3 := H6.out.chv
          obtain ⟨y, e4⟩ := H6.out.b1
          have e5 := H6.out.f1
          have e6 := H6.out.cov
          have j0 : W6.cell? ⟨q, 0, none⟩ = some (.int .u32 1) := (cell_of_row W6 q 0 _ 133 (0, 0) r6).trans rfl
          have j1 : W6.cell? ⟨q, 1, none⟩ = some (.int .u32 6) := (cell_of_row W6 q 1 _ 133 (0, 0) r6).trans rfl
          have j2 : W6.cell? ⟨q, 2, none⟩ = some (.int .u32 0) := (cell_of_row W6 q 2 _ 133 (0, 0) r6).trans rfl
          have j3 : W6.cell? ⟨q, 3, none⟩ = some (.int .u32 0) := (cell_of_row W6 q 3 _ 133 (0, 0) r6).trans rfl
          have j4 : W6.cell? ⟨q, 4, none⟩ = some (.int .u32 0) := (cell_of_row W6 q 4 _ 133 (0, 0) r6).trans rfl
          have j5 : W6.cell? ⟨q, 5, none⟩ = some (.int .u32 0) := (cell_of_row W6 q 5 _ 133 (0, 0) r6).trans rfl
          have e93 : ∀ (args : Array Value) (w : World), (callFunc 93 args).run Tryz.prog w = .ok (.enter 93 args) w := fun args w => by simp [go_sem]
          clear r6
          go_wp2_with fail
          refine Calls.mono (f93_leaf #[.int .u32 1, .int .u32 6, .int .u32 0, .int .u32 0, .int .u32 0, .int .u32 0] rfl _ _ (H6.out.setB 1) (by decide)) ?_
          rintro e w1 ⟨rfl, hb1⟩
          have s6 : (W6.setCell ⟨hb, 1, none⟩ (.int .i64 1)).heap.size = W6.heap.size := by simp [World.setCell]
          have hl7 := H6.out.lt
          have H7 : Hid (TS p mb pv vv ap hb hv ov w1 ((2 - 1 : Nat) : Int) 2) := Lib.hid (((H6.out.setB 1).setM _).below (by simpa [World.setCell] using hb1))
          have B7 : Hid (Below p W w1) := Lib.hid (((B6.out.setCell (p := ⟨hb, 1, none⟩) (by simp only; omega) _).setCell (p := ⟨mb, 0, none⟩) (by simp only; omega) _).trans (hb1.mono (by rw [s6]; omega)))
          have L7 : Hid (w1.heap[W.heap.size]? = some (.cells L 133 (0, 0))) := Lib.hid ((hb1.block _ (by rw [s6]; omega)).trans ((Below.heap_setCell _ ⟨mb, 0, none⟩ _ _ (by simp only; omega)).trans ((Below.heap_setCell _ ⟨hb, 1, none⟩ _ _ (by simp only; omega)).trans L6.out)))
          have I7 : Hid (w1.cell? ⟨W.heap.size + 1, 0, none⟩ = some (.int .i64 1)) := Lib.hid ((hb1.cell (by rw [s6]; simp only; omega)).trans ((World.cell?_setCell_far _ _ _ _ (by simp only; omega)).trans ((World.cell?_setCell_far _ _ _ _ (by simp only; omega)).trans I6.out)))
          clear hb1 j0 j1 j2 j3 j4 j5 e1 e2 e3 e4 e5 e6
          go_wp2
          go_roundw
          case rel => exact ⟨2, by omega, by go_num, H7, B7, L7, I7⟩
          case measure => simp [intOf]
      · have hbit : (bits BinOp.and IntKind.u32 6 4 == 0) = false := by decide
        go_wp2
        go_quiet (fail)
        generalize hW5 : wr.drewN nq = W5
        have h5 := H4.out.drewN nq
        have b5 := below_drewN B4.out nq
        have l5 : W5.heap[W.heap.size]? = some (.cells L 133 (0, 0)) := by
          rw [← hW5]
          exact L4.out
        have i5 : W5.cell? ⟨W.heap.size + 1, 0, none⟩ = some (.int .i64 1) := by
          rw [← hW5]
          exact I4.out
        rw [hW5] at h5 b5
        have H5 := Lib.hid h5
        have B5 := Lib.hid b5
        have L5 := Lib.hid l5
        have I5 := Lib.hid i5
        have k0 : W5.cell? ⟨W.heap.size, 0, none⟩ = some (.int .u32 1) := by
          rw [cell_of_row W5 W.heap.size 0 L 133 (0, 0) l5, HL.out]
          rfl
        have k1 : W5.cell? ⟨W.heap.size, 1, none⟩ = some (.int .u32 6) := by
          rw [cell_of_row W5 W.heap.size 1 L 133 (0, 0) l5, HL.out]
          rfl
        have k2 : W5.cell? ⟨W.heap.size, 2, none⟩ = some (.int .u32 0) := by
          rw [cell_of_row W5 W.heap.size 2 L 133 (0, 0) l5, HL.out]
          rfl
        have k3 : W5.cell? ⟨W.heap.size, 3, none⟩ = some (.int .u32 0) := by
          rw [cell_of_row W5 W.heap.size 3 L 133 (0, 0) l5, HL.out]
          rfl
        have k4 : W5.cell? ⟨W.heap.size, 4, none⟩ = some (.int .u32 0) := by
          rw [cell_of_row W5 W.heap.size 4 L 133 (0, 0) l5, HL.out]
          rfl
        have k5 : W5.cell? ⟨W.heap.size, 5, none⟩ = some (.int .u32 0) := by
          rw [cell_of_row W5 W.heap.size 5 L 133 (0, 0) l5, HL.out]
          rfl
        have n6 := below_alloc W5 (.cells #[.int .u32 1, .int .u32 6, .int .u32 0, .int .u32 0, .int .u32 0, .int .u32 0] 133)
        have N6 := Lib.hid n6
        have h6 := h5.below n6
        have i6 := (n6.cell (lt_of_cell i5)).trans i5
        go_wp2_with fail
        generalize hW6 : W5.alloc (.cells #[.int .u32 1, .int .u32 6, .int .u32 0, .int .u32 0, .int .u32 0, .int .u32 0] 133) = W6
        have r6 : W6.heap[W5.heap.size]? = some (.cells #[.int .u32 1, .int .u32 6, .int .u32 0, .int .u32 0, .int .u32 0, .int .u32 0] 133 (0, 0)) := by
          rw [← hW6]
          exact heap_alloc_new W5 _
        rw [hW6] at h6 i6 N6
        have l6 : W.heap.size + 1 < W5.heap.size := lt_of_cell i5
        have l66 := N6.out.size
        have e7 : W5.heap.size ≠ hb := by omega
        have e8 : hb ≠ W5.heap.size := by omega
        have H6 := Lib.hid h6
        have I6 := Lib.hid i6
        have L6 : Hid (W6.heap[W.heap.size]? = some (.cells L 133 (0, 0))) := Lib.hid ((N6.out.block _ (by omega)).trans l5)
        have B6 : Hid (Below p W W6) := Lib.hid (b5.trans (N6.out.mono (by omega)))
        generalize W5.heap.size = q at *
        have e1 := h6.cpv
        have e2 := h6.p1
        clear hW5 h5 b5 l5 i5 n6 h6 ci cl k0 k1 k2 k3 k4 k5
        go_loopw [11] (fun kv wq => kv = .int .i64 2 ∧ W6 = wq) (fun _ _ => 0)
        case atStart => exact ⟨rfl, rfl⟩
        case round => as_aux_lemma =>
          obtain ⟨rfl, rfl⟩ := hrel
          have e3 := H6.out.chv
          obtain ⟨y, e4⟩ := H6.out.b1
          have e5 := H6.out.f1
          have e6 := H6.out.cov
          have j0 : W6.cell? ⟨q, 0, none⟩ = some (.int .u32 1) := (cell_of_row W6 q 0 _ 133 (0, 0) r6).trans rfl
          have j1 : W6.cell? ⟨q, 1, none⟩ = some (.int .u32 6) := (cell_of_row W6 q 1 _ 133 (0, 0) r6).trans rfl
          have j2 : W6.cell? ⟨q, 2, none⟩ = some (.int .u32 0) := (cell_of_row W6 q 2 _ 133 (0, 0) r6).trans rfl
          have j3 : W6.cell? ⟨q, 3, none⟩ = some (.int .u32 0) := (cell_of_row W6 q 3 _ 133 (0, 0) r6).trans rfl
          have j4 : W6.cell? ⟨q, 4, none⟩ = some (.int .u32 0) := (cell_of_row W6 q 4 _ 133 (0, 0) r6).trans rfl
          have j5 : W6.cell? ⟨q, 5, none⟩ = some (.int .u32 0) := (cell_of_row W6 q 5 _ 133 (0, 0) r6).trans rfl
          have e93 : ∀ (args : Array Value) (w : World), (callFunc 93 args).run Tryz.prog w = .ok (.enter 93 args) w := fun args w => by simp [go_sem]
          clear r6
          go_wp2_with fail
          refine Calls.mono (f93_leaf #[.int .u32 1, .int .u32 6, .int .u32 0, .int .u32 0, .int .u32 0, .int .u32 0] rfl _ _ (H6.out.setB 2) (by decide)) ?_
          rintro e w1 ⟨rfl, hb1⟩
          have s6 : (W6.setCell ⟨hb, 1, none⟩ (.int .i64 2)).heap.size = W6.heap.size := by simp [World.setCell]
          have hl7 := H6.out.lt
          have H7 : Hid (TS p mb pv vv ap hb hv ov w1 ((3 - 1 : Nat) : Int) 2) := Lib.hid (((H6.out.setB 2).setM _).below (by simpa [World.setCell] using hb1))
          have B7 : Hid (Below p W w1) := Lib.hid (((B6.out.setCell (p := ⟨hb, 1, none⟩) (by simp only; omega) _).setCell (p := ⟨mb, 0, none⟩) (by simp only; omega) _).trans (hb1.mono (by rw [s6]; omega)))
          have L7 : Hid (w1.heap[W.heap.size]? = some (.cells L 133 (0, 0))) := Lib.hid ((hb1.block _ (by rw [s6]; omega)).trans ((Below.heap_setCell _ ⟨mb, 0, none⟩ _ _ (by simp only; omega)).trans ((Below.heap_setCell _ ⟨hb, 1, none⟩ _ _ (by simp only; omega)).trans L6.out)))
          have I7 : Hid (w1.cell? ⟨W.heap.size + 1, 0, none⟩ = some (.int .i64 1)) := Lib.hid ((hb1.cell (by rw [s6]; simp only; omega)).trans ((World.cell?_setCell_far _ _ _ _ (by simp only; omega)).trans ((World.cell?_setCell_far _ _ _ _ (by simp only; omega)).trans I6.out)))
          clear hb1 j0 j1 j2 j3 j4 j5 e1 e2 e3 e4 e5 e6
          go_wp2
          go_roundw
          case rel => exact ⟨3, by omega, by go_num, H7, B7, L7, I7⟩
          case measure => simp [intOf]
    · obtain rfl : h = 3 := by omega
      have e1 := H4.out.chv
      go_wp2
      refine leaves_cons (f := 94) (args := #[.pointer (some ⟨hv, 0, none⟩), .pointer (some ⟨W.heap.size + 1, 0, none⟩)]) (by simp) (by simp [go_sem]) ?_
      refine (t94_any hv (W.heap.size + 1) hb 2 .returning wr H4.out.chv H4.out.chf I4.out).mono ?_
      rintro e u' w'' ⟨rfl, rfl, rfl⟩
      exact ⟨_, results_tmp rfl _ _ _, rfl, H4.out.setLen 1, B4.out.setCell (p := ⟨hv, 0, none⟩) (by simp only; omega) _⟩
end
end Go.Proofs.YtmepndnckcpgjaaGreat
