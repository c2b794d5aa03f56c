/- Words: a square of hours. -/
import Derived.Test.YtmepndnckcpgjaaGreatT2
import Derived.BigRegion
import Derived.Deep.RegionHeld
import Derived.Deep.MidRow
namespace Go.Proofs.YtmepndnckcpgjaaGreat
open Go.RowKit
/-- A block of 36 hours, known whole. -/
def MatI (W : World) (o : Nat) (f : Nat → Int) : Prop := W.heap[o]? = some (.cells ((List.range 36).map fun i => Value.int .u32 (f i)).toArray 134 (0, 0))
section
variable {W W' : World} {o : Nat} {f g : Nat → Int}
theorem MatI.lt (h : MatI W o f) : o < W.heap.size := lt_of_block h
theorem MatI.congr (h : MatI W o f) (e : ∀ x, x < 36 → f x = g x) : MatI W o g := by
  unfold MatI at h ⊢
  rw [h]
  have : ((List.range 36).map fun i => Value.int .u32 (f i)) = (List.range 36).map fun i => Value.int .u32 (g i) := List.map_congr_left fun i hi => by rw [e i (List.mem_range.1 hi)]
  rw [this]
theorem MatI.cell (h : MatI W o f) {i : Nat} (hi : i < 36) : W.cell? ⟨o, i, none⟩ = some (.int .u32 (f i)) := by
  rw [cell_of_row W o i _ 134 (0, 0) h]
  simp [hi]
theorem MatI.frozen (h : MatI W o f) (i : Nat) : W.frozen? ⟨o, i, none⟩ = false := by
  unfold MatI at h
  simp only [World.frozen?, h]
  rfl
theorem MatI.below (h : MatI W o f) (hb : Below W.heap.size W W') : MatI W' o f := (hb.block o h.lt).trans h
theorem MatI.drewN (h : MatI W o f) (q : Nat) : MatI (W.drewN q) o f := h
theorem MatI.far (h : MatI W o f) {p : Addr} (hp : o ≠ p.block) (u : Value) : MatI (W.setCell p u) o f := (Below.heap_setCell W p u o hp).trans h
theorem MatI.set (h : MatI W o f) (i : Nat) (v : Int) : MatI (W.setCell ⟨o, i, none⟩ (.int .u32 v)) o (fun x => if x = i then v else f x) := by
  unfold MatI at h ⊢
  simp only [World.setCell, Array.getElem?_modify, h]
  simp only [if_true, Option.map_some, Option.isSome_none, Bool.false_eq_true, if_false]
  congr 2
  apply Array.toList_inj.1
  rw [Array.toList_setIfInBounds]
  apply List.ext_getElem
  · simp
  · intro j h1 h2
    rw [List.getElem_set]
    by_cases e : i = j
    · subst e; simp
    · have e2 : ¬ j = i := fun e2 => e e2.symm
      simp [e, e2]
end
theorem two_mats (w : World) (Z : Array Value) (hZ : Z = ((List.range 36).map fun _ => Value.int .u32 0).toArray) : ∃ W, (w.alloc (.cells Z 134)).alloc (.cells Z 134) = W ∧ MatI W w.heap.size (fun _ => 0) ∧ MatI W (w.heap.size + 1) (fun _ => 0) ∧ Below w.heap.size w W := by
  subst hZ
  have a1 : (w.alloc (.cells ((List.range 36).map fun _ => Value.int .u32 0).toArray 134)).heap[w.heap.size]? = some (.cells ((List.range 36).map fun _ => Value.int .u32 0).toArray 134 (0, 0)) := heap_alloc_new w _
  have s1 : (w.alloc (.cells ((List.range 36).map fun _ => Value.int .u32 0).toArray 134)).heap.size = w.heap.size + 1 := by simp
  have b1 := below_alloc w (.cells ((List.range 36).map fun _ => Value.int .u32 0).toArray 134)
  generalize hZZ : ((List.range 36).map fun _ => Value.int .u32 0).toArray = Z at *
  generalize hw1 : w.alloc (.cells Z 134) = w1 at *
  refine ⟨_, rfl, ?_, ?_, below_step b1 (below_alloc w1 _)⟩
  · unfold MatI
    rw [hZZ]
    exact (Below.heap_alloc w1 (.cells Z 134) w.heap.size (by omega)).trans a1
  · unfold MatI
    rw [hZZ, ← s1]
    exact heap_alloc_new w1 _
def fJ (i j : Nat) : Nat → Int := fun x => if x / 6 < i ∨ (x / 6 = i ∧ x % 6 < j) then (if 2 ≤ x / 6 ∨ 2 ≤ x % 6 then 0 else if x / 6 = x % 6 then 1 else 7) else 0
theorem fJ_next : ∀ i, i < 2 → ∀ j, j < 2 → ∀ x, x < 36 → (if i = j then (fun x => if x = i * 6 + j then 1 else (fun x => if x = i * 6 + j then 7 else fJ i j x) x) x else (fun x => if x = i * 6 + j then 7 else fJ i j x) x) = fJ i (j + 1) x := by decide
theorem fJ_row : ∀ i, i < 2 → ∀ x, x < 36 → fJ i 2 x = fJ (i + 1) 0 x := by decide
theorem fJ_zero : ∀ x, x < 36 → (0 : Int) = fJ 0 0 x := by decide
/-- what apart comes to. -/
def apF : Nat → Int := fun x => if x = 0 ∨ x = 7 then 1 else if x = 1 ∨ x = 6 then 6 else 0
theorem apF_end : ∀ x, x < 36 → (fun x => if x = 6 then (6 : Int) else (fun x => if x = 1 then 6 else fJ 2 0 x) x) x = apF x := by decide
/-- the same in whole numbers from 0 on. -/
def apN (x : Nat) : Nat := if x = 0 ∨ x = 7 then 1 else if x = 1 ∨ x = 6 then 6 else 0
theorem apF_apN : ∀ x, x < 36 → apF x = ((apN x : Nat) : Int) := by decide
/-- what both allow, up to an hour. -/
def bF (k i j : Nat) : Nat → Nat
  | 0 => 0
  | h + 1 => if (apN (i * 6 + k)).testBit h then bF k i j h ||| turnV (apN (k * 6 + j)) h else bF k i j h
theorem apN_lt : ∀ x, x < 36 → apN x < 8 := by decide
theorem bF_bit : ∀ k, k < 2 → ∀ i, i < 2 → ∀ h, h < 3 → (bits BinOp.and IntKind.u32 (apN (i * 6 + k) : Int) ((2 : Int) ^ h % 4294967296) != 0) = (apN (i * 6 + k)).testBit h := by decide
theorem bF_or : ∀ k, k < 2 → ∀ i, i < 2 → ∀ j, j < 2 → ∀ h, h < 3 → bits BinOp.or IntKind.u32 (bF k i j h : Int) (turnV (apN (k * 6 + j)) h : Int) = ((bF k i j h ||| turnV (apN (k * 6 + j)) h : Nat) : Int) := by decide
theorem bF_end : ∀ k, k < 2 → ∀ i, i < 2 → ∀ j, j < 2 → (bits BinOp.andNot IntKind.u32 (apN (i * 6 + j) : Int) (bF k i j 3 : Int) != 0) = false := by decide
/-- what apart comes to, as a list of values. -/
def matV : List Value := (List.range 36).map fun i => Value.int .u32 (apN i : Int)
theorem MatI.range {W : World} {o : Nat} (h : MatI W o fun x => (apN x : Int)) : W.rangeAt o 0 matV := by
  intro j v hv
  have hj : j < 36 := by
    have := (List.getElem?_eq_some_iff.1 hv).1
    simpa [matV] using this
  rw [Nat.zero_add, h.cell hj]
  simp only [matV, List.getElem?_map, List.getElem?_range hj, Option.map_some] at hv
  exact hv
theorem hund : Tryz.prog.underlying 134 = some (.array 6 133) := by kernel_rfl
theorem hinf : (Tryz.prog.info? 134).map (·.size) = some matV.length := by kernel_rfl
theorem MatI.there {W : World} {o : Nat} {f : Nat → Int} (h : MatI W o f) : W.there o 0 matV.toArray.size := by
  intro j hj
  have hj : j < 36 := by simpa [matV] using hj
  rw [Nat.zero_add, h.cell hj]
  exact ⟨rfl, h.frozen j⟩
theorem hinf2 : (Tryz.prog.info? 134).map (·.size) = some matV.toArray.size := by kernel_rfl
theorem hone : matV.toArray.all (·.oneCell') = true := by kernel_rfl
theorem results_cell_mid {P : Program} {fn : Func} {p : Tmp} {ty : TypeId} {g : Nat} (h : fn.results = #[.cell p ty]) (tmps : Array Value) (w : World) (cs : List Value) (d : TypeDesc)
    (hp : tmps.getD p undef = .pointer (some ⟨g, 0, none⟩)) (hc : w.rangeAt g 0 cs)
    (hu : P.underlying ty = some d) (hd : d.isRow = true) (hi : (P.info? ty).map (·.size) = some cs.length) :
    (results fn tmps).run P w = .ok (.agg cs.toArray) w := by
  have hp' : tmps[p]?.getD undef = .pointer (some ⟨g, 0, none⟩) := by simpa using hp
  simp [results, h, hp', asAddr, run_loadVar_mid w g 0 ty cs d hc hu hd hi]
theorem below_sets {B b : Nat} {a : World} (hb : B ≤ b) : ∀ (vs : List Value) (o : Nat) {W : World}, Below B a W → Below B a (W.setCells b o vs)
  | [], _, _, h => h
  | v :: r, o, _, h => below_sets hb r (o + 1) (h.setCell (p := ⟨b, o, none⟩) hb v)
set_option maxRecDepth 100000 in
set_option maxHeartbeats 8000000 in
/-- (*plan).apart at one span. -/
theorem f92_any (p b : Nat) (w : World) (h : Plan1 w p b) :
    Calls Tryz.prog 92 #[.pointer (some ⟨p, 0, none⟩)] w fun e w' => e = .returned (.agg matV.toArray) ∧ Below w.heap.size w w' := by
  obtain ⟨W, hW, hm1, hm2, hbl⟩ := two_mats w #[.int .u32 0, .int .u32 0, .int .u32 0, .int .u32 0, .int .u32 0, .int .u32 0, .int .u32 0, .int .u32 0, .int .u32 0, .int .u32 0, .int .u32 0, .int .u32 0, .int .u32 0, .int .u32 0, .int .u32 0, .int .u32 0, .int .u32 0, .int .u32 0, .int .u32 0, .int .u32 0, .int .u32 0, .int .u32 0, .int .u32 0, .int .u32 0, .int .u32 0, .int .u32 0, .int .u32 0, .int .u32 0, .int .u32 0, .int .u32 0, .int .u32 0, .int .u32 0, .int .u32 0, .int .u32 0, .int .u32 0, .int .u32 0] rfl
  have HM1 := Lib.hid hm1
  have HM2 := Lib.hid hm2
  have HB := Lib.hid hbl
  have HP := Lib.hid h
  have q0 := (h.below hbl).t
  have q1 := (h.below hbl).n
  have q2 := (h.below hbl).s
  clear hm1 hm2 hbl h
  go_enter Tryz.func92, Tryz.ntmps92
  go_wp2
  clear hW
  go_loopw [18] (fun ii wr => ∃ i : Nat, i ≤ 2 ∧ ii = .int .i64 (i : Int) ∧ Hid (MatI wr (w.heap.size + 1) (fJ i 0)) ∧ Hid (MatI wr w.heap.size fun _ => 0) ∧ Hid (Below w.heap.size w wr)) (fun ii _ => 2 - (intOf ii).toNat)
  case atStart => exact ⟨0, by omega, rfl, Lib.hid (HM2.out.congr fJ_zero), HM1, HB⟩
  case round => as_aux_lemma =>
    obtain ⟨i, hi, rfl, M2, M1, B⟩ := hrel
    obtain ⟨wt, rfl⟩ : ∃ z, z = wr := ⟨_, rfl⟩
    by_cases hi2 : i < 2
    · have i0 : (0 : Int) ≤ (i : Int) := by omega
      have i2 : (i : Int) < 2 := by omega
      have q1 := (HP.out.below B.out).n
      go_wp2
      go_loopw [25] (fun ji wr => ∃ j : Nat, j ≤ 2 ∧ ji = .int .i64 (j : Int) ∧ Hid (MatI wr (w.heap.size + 1) (fJ i j)) ∧ Hid (MatI wr w.heap.size fun _ => 0) ∧ Hid (Below w.heap.size w wr)) (fun ji _ => 2 - (intOf ji).toNat)
      case atStart => exact ⟨0, by omega, rfl, M2, M1, B⟩
      case round => as_aux_lemma =>
        obtain ⟨j, hj, rfl, M2, M1, B⟩ := hrel
        by_cases hj2 : j < 2
        · have q0 := (HP.out.below B.out).t
          have hNX := Lib.hid (fJ_next i hi2 j hj2)
          have hi3 : i = 0 ∨ i = 1 := by omega
          have hj3 : j = 0 ∨ j = 1 := by omega
          have hc := M2.out.cell (i := i * 6 + j) (by omega)
          have hf := M2.out.frozen (i * 6 + j)
          clear hi3 hj3
          have j0 : (0 : Int) ≤ (j : Int) := by omega
          have j2 : (j : Int) < 2 := by omega
          have i6 : (i : Int) < 6 := by omega
          have j6 : (j : Int) < 6 := by omega
          by_cases hij : i = j
          · have hNX2 : Hid (∀ x, x < 36 → (fun x => if x = i * 6 + j then (1 : Int) else (fun x => if x = i * 6 + j then 7 else fJ i j x) x) x = fJ i (j + 1) x) := Lib.hid fun x hx => by have := hNX.out x hx; rw [if_pos hij] at this; exact this
            have hq : ((i : Int) == (j : Int)) = true := by simp; omega
            clear hij hNX
            go_wp2_with fail
            go_region
            go_wp2
            go_roundw
            case rel => exact ⟨j + 1, by omega, by go_num, Lib.hid (((M2.out.set (i * 6 + j) 7).set (i * 6 + j) 1).congr hNX2.out), Lib.hid ((M1.out.far (p := ⟨w.heap.size + 1, i * 6 + j, none⟩) (by simp only; omega) _).far (p := ⟨w.heap.size + 1, i * 6 + j, none⟩) (by simp only; omega) _), Lib.hid (((below_drewN B.out 1).setCell (p := ⟨w.heap.size + 1, i * 6 + j, none⟩) (Nat.le_succ _) _).setCell (p := ⟨w.heap.size + 1, i * 6 + j, none⟩) (Nat.le_succ _) _)⟩
            case measure => simp [intOf]; omega
          · have hNX2 : Hid (∀ x, x < 36 → (fun x => if x = i * 6 + j then (7 : Int) else fJ i j x) x = fJ i (j + 1) x) := Lib.hid fun x hx => by have := hNX.out x hx; rw [if_neg hij] at this; exact this
            have hq : ((i : Int) == (j : Int)) = false := by simp; omega
            clear hij hNX
            go_wp2_with fail
            go_region
            go_wp2
            go_roundw
            case rel => exact ⟨j + 1, by omega, by go_num, Lib.hid ((M2.out.set (i * 6 + j) 7).congr hNX2.out), Lib.hid (M1.out.far (p := ⟨w.heap.size + 1, i * 6 + j, none⟩) (by simp only; omega) _), Lib.hid ((below_drewN B.out 1).setCell (p := ⟨w.heap.size + 1, i * 6 + j, none⟩) (Nat.le_succ _) _)⟩
            case measure => simp [intOf]; omega
        · obtain rfl : j = 2 := by omega
          go_wp2
          go_roundw
          case rel => exact ⟨i + 1, by omega, by go_num, Lib.hid (M2.out.congr (fJ_row i hi2)), M1, B⟩
          case measure => simp [intOf]; omega
    · have i2e : i = 2 := by omega
      have M2 : Hid (MatI wt (w.heap.size + 1) (fJ 2 0)) := Lib.hid (by have := M2.out; rw [i2e] at this; exact this)
      have i0 : (0 : Int) ≤ (i : Int) := by omega
      have i2 : ¬ (i : Int) < 2 := by omega
      clear hi hi2 i2e
      have q0 := (HP.out.below B.out).t
      have q1 := (HP.out.below B.out).n
      have q2 := (HP.out.below B.out).s
      go_wp2
      go_loopw [52] (fun ki wr => ∃ k : Nat, k ≤ 1 ∧ ki = .int .i64 (k : Int) ∧ Hid (MatI wr (w.heap.size + 1) (if k = 0 then fJ 2 0 else apF)) ∧ Hid (MatI wr w.heap.size fun _ => 0) ∧ Hid (Below w.heap.size w wr)) (fun ki _ => 1 - (intOf ki).toNat)
      case atStart => exact ⟨0, by omega, rfl, M2, M1, B⟩
      case round => as_aux_lemma =>
        obtain ⟨k, hk, rfl, M2, M1, B⟩ := hrel
        by_cases hk0 : k = 0
        · subst hk0
          have M2 : Hid (MatI wr (w.heap.size + 1) (fJ 2 0)) := M2
          obtain ⟨d0, d1, d2, d3⟩ := (HP.out.below B.out).span
          have K95a : Hid (∀ W, W.cell? ⟨p, 0, none⟩ = some (.int .i64 3) → Calls Tryz.prog 95 #[.pointer (some ⟨p, 0, none⟩), .int .u32 3, .int .i64 1] W fun e w' => e = .returned (.int .u32 6) ∧ ∃ k, w' = W.drewN k) := Lib.hid fun W hW => f95_any p 3 1 1 1 W (by decide) hW (by decide) (by decide) (by decide) (by decide)
          have K95b : Hid (∀ W, W.cell? ⟨p, 0, none⟩ = some (.int .i64 3) → Calls Tryz.prog 95 #[.pointer (some ⟨p, 0, none⟩), .int .u32 3, .int .i64 (-2)] W fun e w' => e = .returned (.int .u32 6) ∧ ∃ k, w' = W.drewN k) := Lib.hid fun W hW => f95_any p 3 (-2) (-2) 1 W (by decide) hW (by decide) (by decide) (by decide) (by decide)
          have hal := below_alloc wr (.cells #[.int .i64 0, .int .i64 1, .int .i64 1, .int .i64 2] 75)
          have B1 : Hid (Below w.heap.size w (wr.alloc (.cells #[.int .i64 0, .int .i64 1, .int .i64 1, .int .i64 2] 75))) := Lib.hid (B.out.alloc B.out.size _)
          have N2 : Hid (MatI (wr.alloc (.cells #[.int .i64 0, .int .i64 1, .int .i64 1, .int .i64 2] 75)) (w.heap.size + 1) (fJ 2 0)) := Lib.hid (M2.out.below hal)
          have N1 : Hid (MatI (wr.alloc (.cells #[.int .i64 0, .int .i64 1, .int .i64 1, .int .i64 2] 75)) w.heap.size fun _ => 0) := Lib.hid (M1.out.below hal)
          have PC16 := (HP.out.below B1.out).t
          have SC16 : (wr.alloc (.cells #[.int .i64 0, .int .i64 1, .int .i64 1, .int .i64 2] 75)).cell? ⟨wr.heap.size, 0, none⟩ = some (.int .i64 0) ∧ (wr.alloc (.cells #[.int .i64 0, .int .i64 1, .int .i64 1, .int .i64 2] 75)).cell? ⟨wr.heap.size, 1, none⟩ = some (.int .i64 1) ∧ (wr.alloc (.cells #[.int .i64 0, .int .i64 1, .int .i64 1, .int .i64 2] 75)).cell? ⟨wr.heap.size, 2, none⟩ = some (.int .i64 1) ∧ (wr.alloc (.cells #[.int .i64 0, .int .i64 1, .int .i64 1, .int .i64 2] 75)).cell? ⟨wr.heap.size, 3, none⟩ = some (.int .i64 2) := ⟨(cell_new wr _ 75 0).trans rfl, (cell_new wr _ 75 1).trans rfl, (cell_new wr _ 75 2).trans rfl, (cell_new wr _ 75 3).trans rfl⟩
          have hlo : w.heap.size + 1 < wr.heap.size := M2.out.lt
          have SD16 := fun (v : Value) => (⟨(World.cell?_setCell_far (wr.alloc (.cells #[.int .i64 0, .int .i64 1, .int .i64 1, .int .i64 2] 75)) ⟨w.heap.size + 1, 1, none⟩ ⟨wr.heap.size, 0, none⟩ v (by simp only; omega)).trans SC16.1, (World.cell?_setCell_far _ ⟨w.heap.size + 1, 1, none⟩ ⟨wr.heap.size, 1, none⟩ v (by simp only; omega)).trans SC16.2.1, (World.cell?_setCell_far _ ⟨w.heap.size + 1, 1, none⟩ ⟨wr.heap.size, 2, none⟩ v (by simp only; omega)).trans SC16.2.2.1, (World.cell?_setCell_far _ ⟨w.heap.size + 1, 1, none⟩ ⟨wr.heap.size, 3, none⟩ v (by simp only; omega)).trans SC16.2.2.2⟩ : _ ∧ _ ∧ _ ∧ _)
          have SD16 := SD16 (.int .u32 6)
          have hv1 : (wr.alloc (.cells #[.int .i64 0, .int .i64 1, .int .i64 1, .int .i64 2] 75)).cell? ⟨w.heap.size + 1, 1, none⟩ = some (.int .u32 7) := N2.out.cell (i := 1) (by omega)
          have hf1 := N2.out.frozen 1
          clear q0 q1 q2
          go_wp2_with fail
          refine wp_region_held_drew (S := fun W => W.cell? ⟨wr.heap.size, 0, none⟩ = some (.int .i64 0) ∧ W.cell? ⟨wr.heap.size, 1, none⟩ = some (.int .i64 1) ∧ W.cell? ⟨wr.heap.size, 2, none⟩ = some (.int .i64 1) ∧ W.cell? ⟨wr.heap.size, 3, none⟩ = some (.int .i64 2)) (by kernel_rfl) (by exact SC16) (fun hS => ?_)
          refine wpAnyH_take (i := 0) (oi := { dst := some 56, op := Op.fieldAddr 75 (Operand.tmp 7) 0, type := 0, pos := "turn.go:60", after := #[], guard := none }) (v := .pointer (some ⟨wr.heap.size, 0, none⟩)) rfl (by kernel_rfl) (by kernel_rfl) (by kernel_rfl) (fun _ _ _ h => h) (Or.inl ⟨by kernel_rfl, fun W hSW => by go_simp⟩) hS ?_
          try simp only [Act.put, List.setIfInBounds_toArray, List.set_cons_zero, List.set_cons_succ]
          refine wpAnyH_take (i := 1) (oi := { dst := some 57, op := Op.load 3 (Operand.tmp 56), type := 3, pos := "turn.go:60", after := #[{ on := 0, ground := Ground.data }], guard := none }) (v := .int .i64 (0)) rfl (by kernel_rfl) (by kernel_rfl) (by kernel_rfl) (fun _ _ _ h => h) (Or.inl ⟨by kernel_rfl, fun W hSW => by obtain ⟨h0, h1, h2, h3⟩ := hSW; go_simp⟩) hS ?_
          try simp only [Act.put, List.setIfInBounds_toArray, List.set_cons_zero, List.set_cons_succ]
          refine wpAnyH_take (i := 2) (oi := { dst := some 58, op := Op.fieldAddr 75 (Operand.tmp 7) 1, type := 0, pos := "turn.go:60", after := #[], guard := none }) (v := .pointer (some ⟨wr.heap.size, 1, none⟩)) rfl (by kernel_rfl) (by kernel_rfl) (by kernel_rfl) (fun _ _ _ h => h) (Or.inl ⟨by kernel_rfl, fun W hSW => by go_simp⟩) hS ?_
          try simp only [Act.put, List.setIfInBounds_toArray, List.set_cons_zero, List.set_cons_succ]
          refine wpAnyH_take (i := 3) (oi := { dst := some 59, op := Op.load 3 (Operand.tmp 58), type := 3, pos := "turn.go:60", after := #[{ on := 2, ground := Ground.data }], guard := none }) (v := .int .i64 (1)) rfl (by kernel_rfl) (by kernel_rfl) (by kernel_rfl) (fun _ _ _ h => h) (Or.inl ⟨by kernel_rfl, fun W hSW => by obtain ⟨h0, h1, h2, h3⟩ := hSW; go_simp⟩) hS ?_
          try simp only [Act.put, List.setIfInBounds_toArray, List.set_cons_zero, List.set_cons_succ]
          refine wpAnyH_take (i := 4) (oi := { dst := some 60, op := Op.indexAddr 134 (Operand.tmp 3) (Operand.tmp 57), type := 0, pos := "turn.go:60", after := #[{ on := 1, ground := Ground.data }], guard := none }) (v := .pointer (some ⟨(w.heap.size + 1), 0, none⟩)) rfl (by kernel_rfl) (by kernel_rfl) (by kernel_rfl) (fun _ _ _ h => h) (Or.inl ⟨by kernel_rfl, fun W hSW => by go_simp⟩) hS ?_
          try simp only [Act.put, List.setIfInBounds_toArray, List.set_cons_zero, List.set_cons_succ]
          refine wpAnyH_take (i := 5) (oi := { dst := some 61, op := Op.indexAddr 133 (Operand.tmp 60) (Operand.tmp 59), type := 0, pos := "turn.go:60", after := #[{ on := 4, ground := Ground.data }, { on := 3, ground := Ground.data }], guard := none }) (v := .pointer (some ⟨(w.heap.size + 1), 1, none⟩)) rfl (by kernel_rfl) (by kernel_rfl) (by kernel_rfl) (fun _ _ _ h => h) (Or.inl ⟨by kernel_rfl, fun W hSW => by go_simp⟩) hS ?_
          try simp only [Act.put, List.setIfInBounds_toArray, List.set_cons_zero, List.set_cons_succ]
          refine wpAnyH_take (i := 7) (oi := { dst := some 63, op := Op.move (Operand.tmp 0), type := 92, pos := "turn.go:60", after := #[], guard := none }) (v := .pointer (some ⟨p, 0, none⟩)) rfl (by kernel_rfl) (by kernel_rfl) (by kernel_rfl) (fun _ _ _ h => h) (Or.inl ⟨by kernel_rfl, fun W hSW => by kernel_rfl⟩) hS ?_
          try simp only [Act.put, List.setIfInBounds_toArray, List.set_cons_zero, List.set_cons_succ]
          refine wpAnyH_take (i := 8) (oi := { dst := some 64, op := Op.fieldAddr 75 (Operand.tmp 7) 3, type := 0, pos := "turn.go:60", after := #[], guard := none }) (v := .pointer (some ⟨wr.heap.size, 3, none⟩)) rfl (by kernel_rfl) (by kernel_rfl) (by kernel_rfl) (fun _ _ _ h => h) (Or.inl ⟨by kernel_rfl, fun W hSW => by go_simp⟩) hS ?_
          try simp only [Act.put, List.setIfInBounds_toArray, List.set_cons_zero, List.set_cons_succ]
          refine wpAnyH_take (i := 9) (oi := { dst := some 65, op := Op.load 3 (Operand.tmp 64), type := 3, pos := "turn.go:60", after := #[{ on := 8, ground := Ground.data }], guard := none }) (v := .int .i64 (2)) rfl (by kernel_rfl) (by kernel_rfl) (by kernel_rfl) (fun _ _ _ h => h) (Or.inl ⟨by kernel_rfl, fun W hSW => by obtain ⟨h0, h1, h2, h3⟩ := hSW; go_simp⟩) hS ?_
          try simp only [Act.put, List.setIfInBounds_toArray, List.set_cons_zero, List.set_cons_succ]
          refine wpAnyH_take (i := 10) (oi := { dst := some 66, op := Op.fieldAddr 75 (Operand.tmp 7) 2, type := 0, pos := "turn.go:60", after := #[], guard := none }) (v := .pointer (some ⟨wr.heap.size, 2, none⟩)) rfl (by kernel_rfl) (by kernel_rfl) (by kernel_rfl) (fun _ _ _ h => h) (Or.inl ⟨by kernel_rfl, fun W hSW => by go_simp⟩) hS ?_
          try simp only [Act.put, List.setIfInBounds_toArray, List.set_cons_zero, List.set_cons_succ]
          refine wpAnyH_take (i := 11) (oi := { dst := some 67, op := Op.load 3 (Operand.tmp 66), type := 3, pos := "turn.go:60", after := #[{ on := 10, ground := Ground.data }], guard := none }) (v := .int .i64 (1)) rfl (by kernel_rfl) (by kernel_rfl) (by kernel_rfl) (fun _ _ _ h => h) (Or.inl ⟨by kernel_rfl, fun W hSW => by obtain ⟨h0, h1, h2, h3⟩ := hSW; go_simp⟩) hS ?_
          try simp only [Act.put, List.setIfInBounds_toArray, List.set_cons_zero, List.set_cons_succ]
          refine wpAnyH_take (i := 12) (oi := { dst := some 68, op := Op.binOp BinOp.sub 3 (Operand.tmp 65) (Operand.tmp 67) 3, type := 3, pos := "turn.go:60", after := #[{ on := 9, ground := Ground.data }, { on := 11, ground := Ground.data }], guard := none }) (v := .int .i64 (1)) rfl (by kernel_rfl) (by kernel_rfl) (by kernel_rfl) (fun _ _ _ h => h) (Or.inl ⟨by kernel_rfl, fun W hSW => by go_simp; rfl⟩) hS ?_
          try simp only [Act.put, List.setIfInBounds_toArray, List.set_cons_zero, List.set_cons_succ]
          refine wpAnyH_take (i := 13) (oi := { dst := some 69, op := Op.binOp BinOp.add 3 (Operand.tmp 68) (Operand.const (Value.int IntKind.i64 1)) 3, type := 3, pos := "turn.go:60", after := #[{ on := 12, ground := Ground.data }], guard := none }) (v := .int .i64 (2)) rfl (by kernel_rfl) (by kernel_rfl) (by kernel_rfl) (fun _ _ _ h => h) (Or.inl ⟨by kernel_rfl, fun W hSW => by go_simp; rfl⟩) hS ?_
          try simp only [Act.put, List.setIfInBounds_toArray, List.set_cons_zero, List.set_cons_succ]
          refine wpAnyH_take (i := 14) (oi := { dst := some 70, op := Op.binOp BinOp.shl 132 (Operand.const (Value.int IntKind.u32 1)) (Operand.tmp 69) 3, type := 132, pos := "turn.go:60", after := #[{ on := 13, ground := Ground.data }], guard := none }) (v := .int .u32 (4)) rfl (by kernel_rfl) (by kernel_rfl) (by kernel_rfl) (fun _ _ _ h => h) (Or.inl ⟨by kernel_rfl, fun W hSW => by go_simp; rfl⟩) hS ?_
          try simp only [Act.put, List.setIfInBounds_toArray, List.set_cons_zero, List.set_cons_succ]
          refine wpAnyH_take (i := 15) (oi := { dst := some 71, op := Op.binOp BinOp.sub 132 (Operand.tmp 70) (Operand.const (Value.int IntKind.u32 1)) 132, type := 132, pos := "turn.go:60", after := #[{ on := 14, ground := Ground.data }], guard := none }) (v := .int .u32 (3)) rfl (by kernel_rfl) (by kernel_rfl) (by kernel_rfl) (fun _ _ _ h => h) (Or.inl ⟨by kernel_rfl, fun W hSW => by go_simp; rfl⟩) hS ?_
          try simp only [Act.put, List.setIfInBounds_toArray, List.set_cons_zero, List.set_cons_succ]
          refine wpAnyH_take (i := 16) (oi := { dst := some 72, op := Op.fieldAddr 75 (Operand.tmp 7) 2, type := 0, pos := "turn.go:60", after := #[], guard := none }) (v := .pointer (some ⟨wr.heap.size, 2, none⟩)) rfl (by kernel_rfl) (by kernel_rfl) (by kernel_rfl) (fun _ _ _ h => h) (Or.inl ⟨by kernel_rfl, fun W hSW => by go_simp⟩) hS ?_
          try simp only [Act.put, List.setIfInBounds_toArray, List.set_cons_zero, List.set_cons_succ]
          refine wpAnyH_take (i := 17) (oi := { dst := some 73, op := Op.load 3 (Operand.tmp 72), type := 3, pos := "turn.go:60", after := #[{ on := 16, ground := Ground.data }], guard := none }) (v := .int .i64 (1)) rfl (by kernel_rfl) (by kernel_rfl) (by kernel_rfl) (fun _ _ _ h => h) (Or.inl ⟨by kernel_rfl, fun W hSW => by obtain ⟨h0, h1, h2, h3⟩ := hSW; go_simp⟩) hS ?_
          try simp only [Act.put, List.setIfInBounds_toArray, List.set_cons_zero, List.set_cons_succ]
          refine wpAnyH_take (i := 20) (oi := { dst := some 76, op := Op.indexAddr 134 (Operand.tmp 3) (Operand.tmp 57), type := 0, pos := "turn.go:60", after := #[{ on := 1, ground := Ground.data }], guard := none }) (v := .pointer (some ⟨(w.heap.size + 1), 0, none⟩)) rfl (by kernel_rfl) (by kernel_rfl) (by kernel_rfl) (fun _ _ _ h => h) (Or.inl ⟨by kernel_rfl, fun W hSW => by go_simp⟩) hS ?_
          try simp only [Act.put, List.setIfInBounds_toArray, List.set_cons_zero, List.set_cons_succ]
          refine wpAnyH_ready (rs := [6, 18]) (by kernel_rfl) (by simp) ?_
          refine AllReadyH.cons (o := { dst := some 62, op := Op.load 132 (Operand.tmp 61), type := 132, pos := "turn.go:60", after := #[{ on := 5, ground := Ground.data }], guard := none }) rfl (fun K hK => ?_) (AllReadyH.cons (o := { dst := some 74, op := Op.call { callee := Callee.value (Operand.func 95), args := #[Operand.tmp 63, Operand.tmp 71, Operand.tmp 73], argTypes := #[92, 132, 3] }, type := 132, pos := "turn.go:60", after := #[{ on := 7, ground := Ground.data }, { on := 15, ground := Ground.data }, { on := 17, ground := Ground.data }], guard := none }) rfl (fun K hK => ?_) AllReadyH.nil)
          · go_simp
            refine hK.out _ _ (hS) (fun hS => ?_)
            clear hK K
            try simp only [Act.put, List.setIfInBounds_toArray, List.set_cons_zero, List.set_cons_succ]
            refine wpAnyH_ready (rs := [18]) (by kernel_rfl) (by simp) ?_
            refine AllReadyH.cons (o := { dst := some 74, op := Op.call { callee := Callee.value (Operand.func 95), args := #[Operand.tmp 63, Operand.tmp 71, Operand.tmp 73], argTypes := #[92, 132, 3] }, type := 132, pos := "turn.go:60", after := #[{ on := 7, ground := Ground.data }, { on := 15, ground := Ground.data }, { on := 17, ground := Ground.data }], guard := none }) rfl (fun K hK => ?_) AllReadyH.nil
            go_simp
            refine Calls.mono (K95a.out _ (by exact PC16)) ?_
            rintro e w9 ⟨rfl, kk, rfl⟩
            refine hK.out _ _ (by exact SC16) (fun hS => ?_)
            clear hK K
            try simp only [Act.put, List.setIfInBounds_toArray, List.set_cons_zero, List.set_cons_succ]
            refine wpAnyH_take (i := 19) (oi := { dst := some 75, op := Op.binOp BinOp.and 132 (Operand.tmp 62) (Operand.tmp 74) 132, type := 132, pos := "turn.go:60", after := #[{ on := 6, ground := Ground.data }, { on := 18, ground := Ground.data }], guard := none }) (v := .int .u32 (6)) rfl (by kernel_rfl) (by kernel_rfl) (by kernel_rfl) (fun _ _ _ h => h) (Or.inl ⟨by kernel_rfl, fun W hSW => by go_simp; rfl⟩) hS ?_
            try simp only [Act.put, List.setIfInBounds_toArray, List.set_cons_zero, List.set_cons_succ]
            refine wpAnyH_take (i := 21) (oi := { dst := some 77, op := Op.indexAddr 133 (Operand.tmp 76) (Operand.tmp 59), type := 0, pos := "turn.go:60", after := #[{ on := 20, ground := Ground.data }, { on := 3, ground := Ground.data }, { on := 0, ground := Ground.phase }, { on := 1, ground := Ground.phase }, { on := 2, ground := Ground.phase }, { on := 3, ground := Ground.phase }, { on := 4, ground := Ground.phase }, { on := 5, ground := Ground.phase }, { on := 6, ground := Ground.phase }, { on := 7, ground := Ground.phase }, { on := 8, ground := Ground.phase }, { on := 9, ground := Ground.phase }, { on := 10, ground := Ground.phase }, { on := 11, ground := Ground.phase }, { on := 12, ground := Ground.phase }, { on := 13, ground := Ground.phase }, { on := 14, ground := Ground.phase }, { on := 15, ground := Ground.phase }, { on := 16, ground := Ground.phase }, { on := 17, ground := Ground.phase }, { on := 18, ground := Ground.phase }, { on := 19, ground := Ground.phase }], guard := none }) (v := .pointer (some ⟨(w.heap.size + 1), 1, none⟩)) rfl (by kernel_rfl) (by kernel_rfl) (by kernel_rfl) (fun _ _ _ h => h) (Or.inl ⟨by kernel_rfl, fun W hSW => by go_simp⟩) hS ?_
            try simp only [Act.put, List.setIfInBounds_toArray, List.set_cons_zero, List.set_cons_succ]
            refine wpAnyH_ready (rs := [22]) (by kernel_rfl) (by simp) ?_
            refine AllReadyH.cons (o := { dst := none, op := Op.store 132 (Operand.tmp 77) (Operand.tmp 75), type := 0, pos := "turn.go:60", after := #[{ on := 21, ground := Ground.data }, { on := 19, ground := Ground.data }, { on := 18, ground := Ground.chain }, { on := 0, ground := Ground.phase }, { on := 1, ground := Ground.phase }, { on := 2, ground := Ground.phase }, { on := 3, ground := Ground.phase }, { on := 4, ground := Ground.phase }, { on := 5, ground := Ground.phase }, { on := 6, ground := Ground.phase }, { on := 7, ground := Ground.phase }, { on := 8, ground := Ground.phase }, { on := 9, ground := Ground.phase }, { on := 10, ground := Ground.phase }, { on := 11, ground := Ground.phase }, { on := 12, ground := Ground.phase }, { on := 13, ground := Ground.phase }, { on := 14, ground := Ground.phase }, { on := 15, ground := Ground.phase }, { on := 16, ground := Ground.phase }, { on := 17, ground := Ground.phase }, { on := 18, ground := Ground.phase }, { on := 19, ground := Ground.phase }], guard := none }) rfl (fun K hK => ?_) AllReadyH.nil
            go_simp
            refine hK.out _ _ (by exact SD16) (fun hS => ?_)
            clear hK K
            try simp only [Act.put, List.setIfInBounds_toArray, List.set_cons_zero, List.set_cons_succ]
            refine wpAnyH_done (by kernel_rfl) ?_ _
            clear hv1 hf1
            have N2b : Hid (MatI ((wr.alloc (.cells #[.int .i64 0, .int .i64 1, .int .i64 1, .int .i64 2] 75)).setCell ⟨w.heap.size + 1, 1, none⟩ (.int .u32 6)) (w.heap.size + 1) fun x => if x = 1 then 6 else fJ 2 0 x) := Lib.hid (N2.out.set 1 6)
            have N1b : Hid (MatI ((wr.alloc (.cells #[.int .i64 0, .int .i64 1, .int .i64 1, .int .i64 2] 75)).setCell ⟨w.heap.size + 1, 1, none⟩ (.int .u32 6)) w.heap.size fun _ => 0) := Lib.hid (N1.out.far (p := ⟨w.heap.size + 1, 1, none⟩) (by simp only; omega) _)
            have B2 : Hid (Below w.heap.size w ((wr.alloc (.cells #[.int .i64 0, .int .i64 1, .int .i64 1, .int .i64 2] 75)).setCell ⟨w.heap.size + 1, 1, none⟩ (.int .u32 6))) := Lib.hid (B1.out.setCell (p := ⟨w.heap.size + 1, 1, none⟩) (Nat.le_succ _) _)
            have PC17 := (HP.out.below B2.out).t
            have hv2 : ((wr.alloc (.cells #[.int .i64 0, .int .i64 1, .int .i64 1, .int .i64 2] 75)).setCell ⟨w.heap.size + 1, 1, none⟩ (.int .u32 6)).cell? ⟨w.heap.size + 1, 6, none⟩ = some (.int .u32 7) := N2b.out.cell (i := 6) (by omega)
            have hf2 := N2b.out.frozen 6
            have hv3 : wr.cell? ⟨w.heap.size + 1, 6, none⟩ = some (.int .u32 7) := M2.out.cell (i := 6) (by omega)
            have hf3 := M2.out.frozen 6
            have SC17 := SD16
            have SD17 := fun (v : Value) => (⟨(World.cell?_setCell_far ((wr.alloc (.cells #[.int .i64 0, .int .i64 1, .int .i64 1, .int .i64 2] 75)).setCell ⟨w.heap.size + 1, 1, none⟩ (.int .u32 6)) ⟨w.heap.size + 1, 6, none⟩ ⟨wr.heap.size, 0, none⟩ v (by simp only; omega)).trans SC17.1, (World.cell?_setCell_far _ ⟨w.heap.size + 1, 6, none⟩ ⟨wr.heap.size, 1, none⟩ v (by simp only; omega)).trans SC17.2.1, (World.cell?_setCell_far _ ⟨w.heap.size + 1, 6, none⟩ ⟨wr.heap.size, 2, none⟩ v (by simp only; omega)).trans SC17.2.2.1, (World.cell?_setCell_far _ ⟨w.heap.size + 1, 6, none⟩ ⟨wr.heap.size, 3, none⟩ v (by simp only; omega)).trans SC17.2.2.2⟩ : _ ∧ _ ∧ _ ∧ _)
            have SD17 := SD17 (.int .u32 6)
            go_wp2_with fail
            refine wp_region_held_drew (S := fun W => W.cell? ⟨wr.heap.size, 0, none⟩ = some (.int .i64 0) ∧ W.cell? ⟨wr.heap.size, 1, none⟩ = some (.int .i64 1) ∧ W.cell? ⟨wr.heap.size, 2, none⟩ = some (.int .i64 1) ∧ W.cell? ⟨wr.heap.size, 3, none⟩ = some (.int .i64 2)) (by kernel_rfl) (by exact SC17) (fun hS => ?_)
            refine wpAnyH_take (i := 0) (oi := { dst := some 78, op := Op.fieldAddr 75 (Operand.tmp 7) 1, type := 0, pos := "turn.go:61", after := #[], guard := none }) (v := .pointer (some ⟨wr.heap.size, 1, none⟩)) rfl (by kernel_rfl) (by kernel_rfl) (by kernel_rfl) (fun _ _ _ h => h) (Or.inl ⟨by kernel_rfl, fun W hSW => by go_simp⟩) hS ?_
            try simp only [Act.put, List.setIfInBounds_toArray, List.set_cons_zero, List.set_cons_succ]
            refine wpAnyH_take (i := 1) (oi := { dst := some 79, op := Op.load 3 (Operand.tmp 78), type := 3, pos := "turn.go:61", after := #[{ on := 0, ground := Ground.data }], guard := none }) (v := .int .i64 (1)) rfl (by kernel_rfl) (by kernel_rfl) (by kernel_rfl) (fun _ _ _ h => h) (Or.inl ⟨by kernel_rfl, fun W hSW => by obtain ⟨h0, h1, h2, h3⟩ := hSW; go_simp⟩) hS ?_
            try simp only [Act.put, List.setIfInBounds_toArray, List.set_cons_zero, List.set_cons_succ]
            refine wpAnyH_take (i := 2) (oi := { dst := some 80, op := Op.fieldAddr 75 (Operand.tmp 7) 0, type := 0, pos := "turn.go:61", after := #[], guard := none }) (v := .pointer (some ⟨wr.heap.size, 0, none⟩)) rfl (by kernel_rfl) (by kernel_rfl) (by kernel_rfl) (fun _ _ _ h => h) (Or.inl ⟨by kernel_rfl, fun W hSW => by go_simp⟩) hS ?_
            try simp only [Act.put, List.setIfInBounds_toArray, List.set_cons_zero, List.set_cons_succ]
            refine wpAnyH_take (i := 3) (oi := { dst := some 81, op := Op.load 3 (Operand.tmp 80), type := 3, pos := "turn.go:61", after := #[{ on := 2, ground := Ground.data }], guard := none }) (v := .int .i64 (0)) rfl (by kernel_rfl) (by kernel_rfl) (by kernel_rfl) (fun _ _ _ h => h) (Or.inl ⟨by kernel_rfl, fun W hSW => by obtain ⟨h0, h1, h2, h3⟩ := hSW; go_simp⟩) hS ?_
            try simp only [Act.put, List.setIfInBounds_toArray, List.set_cons_zero, List.set_cons_succ]
            refine wpAnyH_take (i := 4) (oi := { dst := some 82, op := Op.indexAddr 134 (Operand.tmp 3) (Operand.tmp 79), type := 0, pos := "turn.go:61", after := #[{ on := 1, ground := Ground.data }], guard := none }) (v := .pointer (some ⟨(w.heap.size + 1), 6, none⟩)) rfl (by kernel_rfl) (by kernel_rfl) (by kernel_rfl) (fun _ _ _ h => h) (Or.inl ⟨by kernel_rfl, fun W hSW => by go_simp⟩) hS ?_
            try simp only [Act.put, List.setIfInBounds_toArray, List.set_cons_zero, List.set_cons_succ]
            refine wpAnyH_take (i := 5) (oi := { dst := some 83, op := Op.indexAddr 133 (Operand.tmp 82) (Operand.tmp 81), type := 0, pos := "turn.go:61", after := #[{ on := 4, ground := Ground.data }, { on := 3, ground := Ground.data }], guard := none }) (v := .pointer (some ⟨(w.heap.size + 1), 6, none⟩)) rfl (by kernel_rfl) (by kernel_rfl) (by kernel_rfl) (fun _ _ _ h => h) (Or.inl ⟨by kernel_rfl, fun W hSW => by go_simp⟩) hS ?_
            try simp only [Act.put, List.setIfInBounds_toArray, List.set_cons_zero, List.set_cons_succ]
            refine wpAnyH_take (i := 7) (oi := { dst := some 85, op := Op.move (Operand.tmp 0), type := 92, pos := "turn.go:61", after := #[], guard := none }) (v := .pointer (some ⟨p, 0, none⟩)) rfl (by kernel_rfl) (by kernel_rfl) (by kernel_rfl) (fun _ _ _ h => h) (Or.inl ⟨by kernel_rfl, fun W hSW => by kernel_rfl⟩) hS ?_
            try simp only [Act.put, List.setIfInBounds_toArray, List.set_cons_zero, List.set_cons_succ]
            refine wpAnyH_take (i := 8) (oi := { dst := some 86, op := Op.fieldAddr 75 (Operand.tmp 7) 3, type := 0, pos := "turn.go:61", after := #[], guard := none }) (v := .pointer (some ⟨wr.heap.size, 3, none⟩)) rfl (by kernel_rfl) (by kernel_rfl) (by kernel_rfl) (fun _ _ _ h => h) (Or.inl ⟨by kernel_rfl, fun W hSW => by go_simp⟩) hS ?_
            try simp only [Act.put, List.setIfInBounds_toArray, List.set_cons_zero, List.set_cons_succ]
            refine wpAnyH_take (i := 9) (oi := { dst := some 87, op := Op.load 3 (Operand.tmp 86), type := 3, pos := "turn.go:61", after := #[{ on := 8, ground := Ground.data }], guard := none }) (v := .int .i64 (2)) rfl (by kernel_rfl) (by kernel_rfl) (by kernel_rfl) (fun _ _ _ h => h) (Or.inl ⟨by kernel_rfl, fun W hSW => by obtain ⟨h0, h1, h2, h3⟩ := hSW; go_simp⟩) hS ?_
            try simp only [Act.put, List.setIfInBounds_toArray, List.set_cons_zero, List.set_cons_succ]
            refine wpAnyH_take (i := 10) (oi := { dst := some 88, op := Op.fieldAddr 75 (Operand.tmp 7) 2, type := 0, pos := "turn.go:61", after := #[], guard := none }) (v := .pointer (some ⟨wr.heap.size, 2, none⟩)) rfl (by kernel_rfl) (by kernel_rfl) (by kernel_rfl) (fun _ _ _ h => h) (Or.inl ⟨by kernel_rfl, fun W hSW => by go_simp⟩) hS ?_
            try simp only [Act.put, List.setIfInBounds_toArray, List.set_cons_zero, List.set_cons_succ]
            refine wpAnyH_take (i := 11) (oi := { dst := some 89, op := Op.load 3 (Operand.tmp 88), type := 3, pos := "turn.go:61", after := #[{ on := 10, ground := Ground.data }], guard := none }) (v := .int .i64 (1)) rfl (by kernel_rfl) (by kernel_rfl) (by kernel_rfl) (fun _ _ _ h => h) (Or.inl ⟨by kernel_rfl, fun W hSW => by obtain ⟨h0, h1, h2, h3⟩ := hSW; go_simp⟩) hS ?_
            try simp only [Act.put, List.setIfInBounds_toArray, List.set_cons_zero, List.set_cons_succ]
            refine wpAnyH_take (i := 12) (oi := { dst := some 90, op := Op.binOp BinOp.sub 3 (Operand.tmp 87) (Operand.tmp 89) 3, type := 3, pos := "turn.go:61", after := #[{ on := 9, ground := Ground.data }, { on := 11, ground := Ground.data }], guard := none }) (v := .int .i64 (1)) rfl (by kernel_rfl) (by kernel_rfl) (by kernel_rfl) (fun _ _ _ h => h) (Or.inl ⟨by kernel_rfl, fun W hSW => by go_simp; rfl⟩) hS ?_
            try simp only [Act.put, List.setIfInBounds_toArray, List.set_cons_zero, List.set_cons_succ]
            refine wpAnyH_take (i := 13) (oi := { dst := some 91, op := Op.binOp BinOp.add 3 (Operand.tmp 90) (Operand.const (Value.int IntKind.i64 1)) 3, type := 3, pos := "turn.go:61", after := #[{ on := 12, ground := Ground.data }], guard := none }) (v := .int .i64 (2)) rfl (by kernel_rfl) (by kernel_rfl) (by kernel_rfl) (fun _ _ _ h => h) (Or.inl ⟨by kernel_rfl, fun W hSW => by go_simp; rfl⟩) hS ?_
            try simp only [Act.put, List.setIfInBounds_toArray, List.set_cons_zero, List.set_cons_succ]
            refine wpAnyH_take (i := 14) (oi := { dst := some 92, op := Op.binOp BinOp.shl 132 (Operand.const (Value.int IntKind.u32 1)) (Operand.tmp 91) 3, type := 132, pos := "turn.go:61", after := #[{ on := 13, ground := Ground.data }], guard := none }) (v := .int .u32 (4)) rfl (by kernel_rfl) (by kernel_rfl) (by kernel_rfl) (fun _ _ _ h => h) (Or.inl ⟨by kernel_rfl, fun W hSW => by go_simp; rfl⟩) hS ?_
            try simp only [Act.put, List.setIfInBounds_toArray, List.set_cons_zero, List.set_cons_succ]
            refine wpAnyH_take (i := 15) (oi := { dst := some 93, op := Op.binOp BinOp.sub 132 (Operand.tmp 92) (Operand.const (Value.int IntKind.u32 1)) 132, type := 132, pos := "turn.go:61", after := #[{ on := 14, ground := Ground.data }], guard := none }) (v := .int .u32 (3)) rfl (by kernel_rfl) (by kernel_rfl) (by kernel_rfl) (fun _ _ _ h => h) (Or.inl ⟨by kernel_rfl, fun W hSW => by go_simp; rfl⟩) hS ?_
            try simp only [Act.put, List.setIfInBounds_toArray, List.set_cons_zero, List.set_cons_succ]
            refine wpAnyH_take (i := 16) (oi := { dst := some 94, op := Op.fieldAddr 75 (Operand.tmp 7) 3, type := 0, pos := "turn.go:61", after := #[], guard := none }) (v := .pointer (some ⟨wr.heap.size, 3, none⟩)) rfl (by kernel_rfl) (by kernel_rfl) (by kernel_rfl) (fun _ _ _ h => h) (Or.inl ⟨by kernel_rfl, fun W hSW => by go_simp⟩) hS ?_
            try simp only [Act.put, List.setIfInBounds_toArray, List.set_cons_zero, List.set_cons_succ]
            refine wpAnyH_take (i := 17) (oi := { dst := some 95, op := Op.load 3 (Operand.tmp 94), type := 3, pos := "turn.go:61", after := #[{ on := 16, ground := Ground.data }], guard := none }) (v := .int .i64 (2)) rfl (by kernel_rfl) (by kernel_rfl) (by kernel_rfl) (fun _ _ _ h => h) (Or.inl ⟨by kernel_rfl, fun W hSW => by obtain ⟨h0, h1, h2, h3⟩ := hSW; go_simp⟩) hS ?_
            try simp only [Act.put, List.setIfInBounds_toArray, List.set_cons_zero, List.set_cons_succ]
            refine wpAnyH_take (i := 18) (oi := { dst := some 96, op := Op.unOp UnOp.neg 3 (Operand.tmp 95), type := 3, pos := "turn.go:61", after := #[{ on := 17, ground := Ground.data }], guard := none }) (v := .int .i64 (-2)) rfl (by kernel_rfl) (by kernel_rfl) (by kernel_rfl) (fun _ _ _ h => h) (Or.inl ⟨by kernel_rfl, fun W hSW => by go_simp; rfl⟩) hS ?_
            try simp only [Act.put, List.setIfInBounds_toArray, List.set_cons_zero, List.set_cons_succ]
            refine wpAnyH_take (i := 21) (oi := { dst := some 99, op := Op.indexAddr 134 (Operand.tmp 3) (Operand.tmp 79), type := 0, pos := "turn.go:61", after := #[{ on := 1, ground := Ground.data }], guard := none }) (v := .pointer (some ⟨(w.heap.size + 1), 6, none⟩)) rfl (by kernel_rfl) (by kernel_rfl) (by kernel_rfl) (fun _ _ _ h => h) (Or.inl ⟨by kernel_rfl, fun W hSW => by go_simp⟩) hS ?_
            try simp only [Act.put, List.setIfInBounds_toArray, List.set_cons_zero, List.set_cons_succ]
            refine wpAnyH_ready (rs := [6, 19]) (by kernel_rfl) (by simp) ?_
            refine AllReadyH.cons (o := { dst := some 84, op := Op.load 132 (Operand.tmp 83), type := 132, pos := "turn.go:61", after := #[{ on := 5, ground := Ground.data }], guard := none }) rfl (fun K hK => ?_) (AllReadyH.cons (o := { dst := some 97, op := Op.call { callee := Callee.value (Operand.func 95), args := #[Operand.tmp 85, Operand.tmp 93, Operand.tmp 96], argTypes := #[92, 132, 3] }, type := 132, pos := "turn.go:61", after := #[{ on := 7, ground := Ground.data }, { on := 15, ground := Ground.data }, { on := 18, ground := Ground.data }], guard := none }) rfl (fun K hK => ?_) AllReadyH.nil)
            · go_simp
              refine hK.out _ _ (hS) (fun hS => ?_)
              clear hK K
              try simp only [Act.put, List.setIfInBounds_toArray, List.set_cons_zero, List.set_cons_succ]
              refine wpAnyH_ready (rs := [19]) (by kernel_rfl) (by simp) ?_
              refine AllReadyH.cons (o := { dst := some 97, op := Op.call { callee := Callee.value (Operand.func 95), args := #[Operand.tmp 85, Operand.tmp 93, Operand.tmp 96], argTypes := #[92, 132, 3] }, type := 132, pos := "turn.go:61", after := #[{ on := 7, ground := Ground.data }, { on := 15, ground := Ground.data }, { on := 18, ground := Ground.data }], guard := none }) rfl (fun K hK => ?_) AllReadyH.nil
              go_simp
              refine Calls.mono (K95b.out _ (by exact PC17)) ?_
              rintro e w9 ⟨rfl, kk, rfl⟩
              refine hK.out _ _ (by exact SC17) (fun hS => ?_)
              clear hK K
              try simp only [Act.put, List.setIfInBounds_toArray, List.set_cons_zero, List.set_cons_succ]
              refine wpAnyH_take (i := 20) (oi := { dst := some 98, op := Op.binOp BinOp.and 132 (Operand.tmp 84) (Operand.tmp 97) 132, type := 132, pos := "turn.go:61", after := #[{ on := 6, ground := Ground.data }, { on := 19, ground := Ground.data }], guard := none }) (v := .int .u32 (6)) rfl (by kernel_rfl) (by kernel_rfl) (by kernel_rfl) (fun _ _ _ h => h) (Or.inl ⟨by kernel_rfl, fun W hSW => by go_simp; rfl⟩) hS ?_
              try simp only [Act.put, List.setIfInBounds_toArray, List.set_cons_zero, List.set_cons_succ]
              refine wpAnyH_take (i := 22) (oi := { dst := some 100, op := Op.indexAddr 133 (Operand.tmp 99) (Operand.tmp 81), type := 0, pos := "turn.go:61", after := #[{ on := 21, ground := Ground.data }, { on := 3, ground := Ground.data }, { on := 0, ground := Ground.phase }, { on := 1, ground := Ground.phase }, { on := 2, ground := Ground.phase }, { on := 3, ground := Ground.phase }, { on := 4, ground := Ground.phase }, { on := 5, ground := Ground.phase }, { on := 6, ground := Ground.phase }, { on := 7, ground := Ground.phase }, { on := 8, ground := Ground.phase }, { on := 9, ground := Ground.phase }, { on := 10, ground := Ground.phase }, { on := 11, ground := Ground.phase }, { on := 12, ground := Ground.phase }, { on := 13, ground := Ground.phase }, { on := 14, ground := Ground.phase }, { on := 15, ground := Ground.phase }, { on := 16, ground := Ground.phase }, { on := 17, ground := Ground.phase }, { on := 18, ground := Ground.phase }, { on := 19, ground := Ground.phase }, { on := 20, ground := Ground.phase }], guard := none }) (v := .pointer (some ⟨(w.heap.size + 1), 6, none⟩)) rfl (by kernel_rfl) (by kernel_rfl) (by kernel_rfl) (fun _ _ _ h => h) (Or.inl ⟨by kernel_rfl, fun W hSW => by go_simp⟩) hS ?_
              try simp only [Act.put, List.setIfInBounds_toArray, List.set_cons_zero, List.set_cons_succ]
              refine wpAnyH_ready (rs := [23]) (by kernel_rfl) (by simp) ?_
              refine AllReadyH.cons (o := { dst := none, op := Op.store 132 (Operand.tmp 100) (Operand.tmp 98), type := 0, pos := "turn.go:61", after := #[{ on := 22, ground := Ground.data }, { on := 20, ground := Ground.data }, { on := 19, ground := Ground.chain }, { on := 0, ground := Ground.phase }, { on := 1, ground := Ground.phase }, { on := 2, ground := Ground.phase }, { on := 3, ground := Ground.phase }, { on := 4, ground := Ground.phase }, { on := 5, ground := Ground.phase }, { on := 6, ground := Ground.phase }, { on := 7, ground := Ground.phase }, { on := 8, ground := Ground.phase }, { on := 9, ground := Ground.phase }, { on := 10, ground := Ground.phase }, { on := 11, ground := Ground.phase }, { on := 12, ground := Ground.phase }, { on := 13, ground := Ground.phase }, { on := 14, ground := Ground.phase }, { on := 15, ground := Ground.phase }, { on := 16, ground := Ground.phase }, { on := 17, ground := Ground.phase }, { on := 18, ground := Ground.phase }, { on := 19, ground := Ground.phase }, { on := 20, ground := Ground.phase }], guard := none }) rfl (fun K hK => ?_) AllReadyH.nil
              go_simp
              refine hK.out _ _ (by exact SD17) (fun hS => ?_)
              clear hK K
              try simp only [Act.put, List.setIfInBounds_toArray, List.set_cons_zero, List.set_cons_succ]
              refine wpAnyH_done (by kernel_rfl) ?_ _
              clear hv2 hf2 hv3 hf3
              go_wp2
              go_roundw
              case rel => exact ⟨1, by omega, rfl, Lib.hid ((N2b.out.set 6 6).congr fun x hx => (apF_end x hx).trans rfl), Lib.hid (N1b.out.far (p := ⟨w.heap.size + 1, 6, none⟩) (by simp only; omega) _), Lib.hid ((below_drewN ((below_drewN B1.out _).setCell (p := ⟨w.heap.size + 1, 1, none⟩) (Nat.le_succ _) _) _).setCell (p := ⟨w.heap.size + 1, 6, none⟩) (Nat.le_succ _) _)⟩
              case measure => simp [intOf]
            · go_simp
              refine Calls.mono (K95b.out _ (by exact PC17)) ?_
              rintro e w9 ⟨rfl, kk, rfl⟩
              refine hK.out _ _ (by exact SC17) (fun hS => ?_)
              clear hK K
              try simp only [Act.put, List.setIfInBounds_toArray, List.set_cons_zero, List.set_cons_succ]
              refine wpAnyH_ready (rs := [6]) (by kernel_rfl) (by simp) ?_
              refine AllReadyH.cons (o := { dst := some 84, op := Op.load 132 (Operand.tmp 83), type := 132, pos := "turn.go:61", after := #[{ on := 5, ground := Ground.data }], guard := none }) rfl (fun K hK => ?_) AllReadyH.nil
              go_simp
              refine hK.out _ _ (hS) (fun hS => ?_)
              clear hK K
              try simp only [Act.put, List.setIfInBounds_toArray, List.set_cons_zero, List.set_cons_succ]
              refine wpAnyH_take (i := 20) (oi := { dst := some 98, op := Op.binOp BinOp.and 132 (Operand.tmp 84) (Operand.tmp 97) 132, type := 132, pos := "turn.go:61", after := #[{ on := 6, ground := Ground.data }, { on := 19, ground := Ground.data }], guard := none }) (v := .int .u32 (6)) rfl (by kernel_rfl) (by kernel_rfl) (by kernel_rfl) (fun _ _ _ h => h) (Or.inl ⟨by kernel_rfl, fun W hSW => by go_simp; rfl⟩) hS ?_
              try simp only [Act.put, List.setIfInBounds_toArray, List.set_cons_zero, List.set_cons_succ]
              refine wpAnyH_take (i := 22) (oi := { dst := some 100, op := Op.indexAddr 133 (Operand.tmp 99) (Operand.tmp 81), type := 0, pos := "turn.go:61", after := #[{ on := 21, ground := Ground.data }, { on := 3, ground := Ground.data }, { on := 0, ground := Ground.phase }, { on := 1, ground := Ground.phase }, { on := 2, ground := Ground.phase }, { on := 3, ground := Ground.phase }, { on := 4, ground := Ground.phase }, { on := 5, ground := Ground.phase }, { on := 6, ground := Ground.phase }, { on := 7, ground := Ground.phase }, { on := 8, ground := Ground.phase }, { on := 9, ground := Ground.phase }, { on := 10, ground := Ground.phase }, { on := 11, ground := Ground.phase }, { on := 12, ground := Ground.phase }, { on := 13, ground := Ground.phase }, { on := 14, ground := Ground.phase }, { on := 15, ground := Ground.phase }, { on := 16, ground := Ground.phase }, { on := 17, ground := Ground.phase }, { on := 18, ground := Ground.phase }, { on := 19, ground := Ground.phase }, { on := 20, ground := Ground.phase }], guard := none }) (v := .pointer (some ⟨(w.heap.size + 1), 6, none⟩)) rfl (by kernel_rfl) (by kernel_rfl) (by kernel_rfl) (fun _ _ _ h => h) (Or.inl ⟨by kernel_rfl, fun W hSW => by go_simp⟩) hS ?_
              try simp only [Act.put, List.setIfInBounds_toArray, List.set_cons_zero, List.set_cons_succ]
              refine wpAnyH_ready (rs := [23]) (by kernel_rfl) (by simp) ?_
              refine AllReadyH.cons (o := { dst := none, op := Op.store 132 (Operand.tmp 100) (Operand.tmp 98), type := 0, pos := "turn.go:61", after := #[{ on := 22, ground := Ground.data }, { on := 20, ground := Ground.data }, { on := 19, ground := Ground.chain }, { on := 0, ground := Ground.phase }, { on := 1, ground := Ground.phase }, { on := 2, ground := Ground.phase }, { on := 3, ground := Ground.phase }, { on := 4, ground := Ground.phase }, { on := 5, ground := Ground.phase }, { on := 6, ground := Ground.phase }, { on := 7, ground := Ground.phase }, { on := 8, ground := Ground.phase }, { on := 9, ground := Ground.phase }, { on := 10, ground := Ground.phase }, { on := 11, ground := Ground.phase }, { on := 12, ground := Ground.phase }, { on := 13, ground := Ground.phase }, { on := 14, ground := Ground.phase }, { on := 15, ground := Ground.phase }, { on := 16, ground := Ground.phase }, { on := 17, ground := Ground.phase }, { on := 18, ground := Ground.phase }, { on := 19, ground := Ground.phase }, { on := 20, ground := Ground.phase }], guard := none }) rfl (fun K hK => ?_) AllReadyH.nil
              go_simp
              refine hK.out _ _ (by exact SD17) (fun hS => ?_)
              clear hK K
              try simp only [Act.put, List.setIfInBounds_toArray, List.set_cons_zero, List.set_cons_succ]
              refine wpAnyH_done (by kernel_rfl) ?_ _
              clear hv2 hf2 hv3 hf3
              go_wp2
              go_roundw
              case rel => exact ⟨1, by omega, rfl, Lib.hid ((N2b.out.set 6 6).congr fun x hx => (apF_end x hx).trans rfl), Lib.hid (N1b.out.far (p := ⟨w.heap.size + 1, 6, none⟩) (by simp only; omega) _), Lib.hid ((below_drewN ((below_drewN B1.out _).setCell (p := ⟨w.heap.size + 1, 1, none⟩) (Nat.le_succ _) _) _).setCell (p := ⟨w.heap.size + 1, 6, none⟩) (Nat.le_succ _) _)⟩
              case measure => simp [intOf]
          · go_simp
            refine Calls.mono (K95a.out _ (by exact PC16)) ?_
            rintro e w9 ⟨rfl, kk, rfl⟩
            refine hK.out _ _ (by exact SC16) (fun hS => ?_)
            clear hK K
            try simp only [Act.put, List.setIfInBounds_toArray, List.set_cons_zero, List.set_cons_succ]
            refine wpAnyH_ready (rs := [6]) (by kernel_rfl) (by simp) ?_
            refine AllReadyH.cons (o := { dst := some 62, op := Op.load 132 (Operand.tmp 61), type := 132, pos := "turn.go:60", after := #[{ on := 5, ground := Ground.data }], guard := none }) rfl (fun K hK => ?_) AllReadyH.nil
            go_simp
            refine hK.out _ _ (hS) (fun hS => ?_)
            clear hK K
            try simp only [Act.put, List.setIfInBounds_toArray, List.set_cons_zero, List.set_cons_succ]
            refine wpAnyH_take (i := 19) (oi := { dst := some 75, op := Op.binOp BinOp.and 132 (Operand.tmp 62) (Operand.tmp 74) 132, type := 132, pos := "turn.go:60", after := #[{ on := 6, ground := Ground.data }, { on := 18, ground := Ground.data }], guard := none }) (v := .int .u32 (6)) rfl (by kernel_rfl) (by kernel_rfl) (by kernel_rfl) (fun _ _ _ h => h) (Or.inl ⟨by kernel_rfl, fun W hSW => by go_simp; rfl⟩) hS ?_
            try simp only [Act.put, List.setIfInBounds_toArray, List.set_cons_zero, List.set_cons_succ]
            refine wpAnyH_take (i := 21) (oi := { dst := some 77, op := Op.indexAddr 133 (Operand.tmp 76) (Operand.tmp 59), type := 0, pos := "turn.go:60", after := #[{ on := 20, ground := Ground.data }, { on := 3, ground := Ground.data }, { on := 0, ground := Ground.phase }, { on := 1, ground := Ground.phase }, { on := 2, ground := Ground.phase }, { on := 3, ground := Ground.phase }, { on := 4, ground := Ground.phase }, { on := 5, ground := Ground.phase }, { on := 6, ground := Ground.phase }, { on := 7, ground := Ground.phase }, { on := 8, ground := Ground.phase }, { on := 9, ground := Ground.phase }, { on := 10, ground := Ground.phase }, { on := 11, ground := Ground.phase }, { on := 12, ground := Ground.phase }, { on := 13, ground := Ground.phase }, { on := 14, ground := Ground.phase }, { on := 15, ground := Ground.phase }, { on := 16, ground := Ground.phase }, { on := 17, ground := Ground.phase }, { on := 18, ground := Ground.phase }, { on := 19, ground := Ground.phase }], guard := none }) (v := .pointer (some ⟨(w.heap.size + 1), 1, none⟩)) rfl (by kernel_rfl) (by kernel_rfl) (by kernel_rfl) (fun _ _ _ h => h) (Or.inl ⟨by kernel_rfl, fun W hSW => by go_simp⟩) hS ?_
            try simp only [Act.put, List.setIfInBounds_toArray, List.set_cons_zero, List.set_cons_succ]
            refine wpAnyH_ready (rs := [22]) (by kernel_rfl) (by simp) ?_
            refine AllReadyH.cons (o := { dst := none, op := Op.store 132 (Operand.tmp 77) (Operand.tmp 75), type := 0, pos := "turn.go:60", after := #[{ on := 21, ground := Ground.data }, { on := 19, ground := Ground.data }, { on := 18, ground := Ground.chain }, { on := 0, ground := Ground.phase }, { on := 1, ground := Ground.phase }, { on := 2, ground := Ground.phase }, { on := 3, ground := Ground.phase }, { on := 4, ground := Ground.phase }, { on := 5, ground := Ground.phase }, { on := 6, ground := Ground.phase }, { on := 7, ground := Ground.phase }, { on := 8, ground := Ground.phase }, { on := 9, ground := Ground.phase }, { on := 10, ground := Ground.phase }, { on := 11, ground := Ground.phase }, { on := 12, ground := Ground.phase }, { on := 13, ground := Ground.phase }, { on := 14, ground := Ground.phase }, { on := 15, ground := Ground.phase }, { on := 16, ground := Ground.phase }, { on := 17, ground := Ground.phase }, { on := 18, ground := Ground.phase }, { on := 19, ground := Ground.phase }], guard := none }) rfl (fun K hK => ?_) AllReadyH.nil
            go_simp
            refine hK.out _ _ (by exact SD16) (fun hS => ?_)
            clear hK K
            try simp only [Act.put, List.setIfInBounds_toArray, List.set_cons_zero, List.set_cons_succ]
            refine wpAnyH_done (by kernel_rfl) ?_ _
            clear hv1 hf1
            have N2b : Hid (MatI ((wr.alloc (.cells #[.int .i64 0, .int .i64 1, .int .i64 1, .int .i64 2] 75)).setCell ⟨w.heap.size + 1, 1, none⟩ (.int .u32 6)) (w.heap.size + 1) fun x => if x = 1 then 6 else fJ 2 0 x) := Lib.hid (N2.out.set 1 6)
            have N1b : Hid (MatI ((wr.alloc (.cells #[.int .i64 0, .int .i64 1, .int .i64 1, .int .i64 2] 75)).setCell ⟨w.heap.size + 1, 1, none⟩ (.int .u32 6)) w.heap.size fun _ => 0) := Lib.hid (N1.out.far (p := ⟨w.heap.size + 1, 1, none⟩) (by simp only; omega) _)
            have B2 : Hid (Below w.heap.size w ((wr.alloc (.cells #[.int .i64 0, .int .i64 1, .int .i64 1, .int .i64 2] 75)).setCell ⟨w.heap.size + 1, 1, none⟩ (.int .u32 6))) := Lib.hid (B1.out.setCell (p := ⟨w.heap.size + 1, 1, none⟩) (Nat.le_succ _) _)
            have PC17 := (HP.out.below B2.out).t
            have hv2 : ((wr.alloc (.cells #[.int .i64 0, .int .i64 1, .int .i64 1, .int .i64 2] 75)).setCell ⟨w.heap.size + 1, 1, none⟩ (.int .u32 6)).cell? ⟨w.heap.size + 1, 6, none⟩ = some (.int .u32 7) := N2b.out.cell (i := 6) (by omega)
            have hf2 := N2b.out.frozen 6
            have hv3 : wr.cell? ⟨w.heap.size + 1, 6, none⟩ = some (.int .u32 7) := M2.out.cell (i := 6) (by omega)
            have hf3 := M2.out.frozen 6
            have SC17 := SD16
            have SD17 := fun (v : Value) => (⟨(World.cell?_setCell_far ((wr.alloc (.cells #[.int .i64 0, .int .i64 1, .int .i64 1, .int .i64 2] 75)).setCell ⟨w.heap.size + 1, 1, none⟩ (.int .u32 6)) ⟨w.heap.size + 1, 6, none⟩ ⟨wr.heap.size, 0, none⟩ v (by simp only; omega)).trans SC17.1, (World.cell?_setCell_far _ ⟨w.heap.size + 1, 6, none⟩ ⟨wr.heap.size, 1, none⟩ v (by simp only; omega)).trans SC17.2.1, (World.cell?_setCell_far _ ⟨w.heap.size + 1, 6, none⟩ ⟨wr.heap.size, 2, none⟩ v (by simp only; omega)).trans SC17.2.2.1, (World.cell?_setCell_far _ ⟨w.heap.size + 1, 6, none⟩ ⟨wr.heap.size, 3, none⟩ v (by simp only; omega)).trans SC17.2.2.2⟩ : _ ∧ _ ∧ _ ∧ _)
            have SD17 := SD17 (.int .u32 6)
            go_wp2_with fail
            refine wp_region_held_drew (S := fun W => W.cell? ⟨wr.heap.size, 0, none⟩ = some (.int .i64 0) ∧ W.cell? ⟨wr.heap.size, 1, none⟩ = some (.int .i64 1) ∧ W.cell? ⟨wr.heap.size, 2, none⟩ = some (.int .i64 1) ∧ W.cell? ⟨wr.heap.size, 3, none⟩ = some (.int .i64 2)) (by kernel_rfl) (by exact SC17) (fun hS => ?_)
            refine wpAnyH_take (i := 0) (oi := { dst := some 78, op := Op.fieldAddr 75 (Operand.tmp 7) 1, type := 0, pos := "turn.go:61", after := #[], guard := none }) (v := .pointer (some ⟨wr.heap.size, 1, none⟩)) rfl (by kernel_rfl) (by kernel_rfl) (by kernel_rfl) (fun _ _ _ h => h) (Or.inl ⟨by kernel_rfl, fun W hSW => by go_simp⟩) hS ?_
            try simp only [Act.put, List.setIfInBounds_toArray, List.set_cons_zero, List.set_cons_succ]
            refine wpAnyH_take (i := 1) (oi := { dst := some 79, op := Op.load 3 (Operand.tmp 78), type := 3, pos := "turn.go:61", after := #[{ on := 0, ground := Ground.data }], guard := none }) (v := .int .i64 (1)) rfl (by kernel_rfl) (by kernel_rfl) (by kernel_rfl) (fun _ _ _ h => h) (Or.inl ⟨by kernel_rfl, fun W hSW => by obtain ⟨h0, h1, h2, h3⟩ := hSW; go_simp⟩) hS ?_
            try simp only [Act.put, List.setIfInBounds_toArray, List.set_cons_zero, List.set_cons_succ]
            refine wpAnyH_take (i := 2) (oi := { dst := some 80, op := Op.fieldAddr 75 (Operand.tmp 7) 0, type := 0, pos := "turn.go:61", after := #[], guard := none }) (v := .pointer (some ⟨wr.heap.size, 0, none⟩)) rfl (by kernel_rfl) (by kernel_rfl) (by kernel_rfl) (fun _ _ _ h => h) (Or.inl ⟨by kernel_rfl, fun W hSW => by go_simp⟩) hS ?_
            try simp only [Act.put, List.setIfInBounds_toArray, List.set_cons_zero, List.set_cons_succ]
            refine wpAnyH_take (i := 3) (oi := { dst := some 81, op := Op.load 3 (Operand.tmp 80), type := 3, pos := "turn.go:61", after := #[{ on := 2, ground := Ground.data }], guard := none }) (v := .int .i64 (0)) rfl (by kernel_rfl) (by kernel_rfl) (by kernel_rfl) (fun _ _ _ h => h) (Or.inl ⟨by kernel_rfl, fun W hSW => by obtain ⟨h0, h1, h2, h3⟩ := hSW; go_simp⟩) hS ?_
            try simp only [Act.put, List.setIfInBounds_toArray, List.set_cons_zero, List.set_cons_succ]
            refine wpAnyH_take (i := 4) (oi := { dst := some 82, op := Op.indexAddr 134 (Operand.tmp 3) (Operand.tmp 79), type := 0, pos := "turn.go:61", after := #[{ on := 1, ground := Ground.data }], guard := none }) (v := .pointer (some ⟨(w.heap.size + 1), 6, none⟩)) rfl (by kernel_rfl) (by kernel_rfl) (by kernel_rfl) (fun _ _ _ h => h) (Or.inl ⟨by kernel_rfl, fun W hSW => by go_simp⟩) hS ?_
            try simp only [Act.put, List.setIfInBounds_toArray, List.set_cons_zero, List.set_cons_succ]
            refine wpAnyH_take (i := 5) (oi := { dst := some 83, op := Op.indexAddr 133 (Operand.tmp 82) (Operand.tmp 81), type := 0, pos := "turn.go:61", after := #[{ on := 4, ground := Ground.data }, { on := 3, ground := Ground.data }], guard := none }) (v := .pointer (some ⟨(w.heap.size + 1), 6, none⟩)) rfl (by kernel_rfl) (by kernel_rfl) (by kernel_rfl) (fun _ _ _ h => h) (Or.inl ⟨by kernel_rfl, fun W hSW => by go_simp⟩) hS ?_
            try simp only [Act.put, List.setIfInBounds_toArray, List.set_cons_zero, List.set_cons_succ]
            refine wpAnyH_take (i := 7) (oi := { dst := some 85, op := Op.move (Operand.tmp 0), type := 92, pos := "turn.go:61", after := #[], guard := none }) (v := .pointer (some ⟨p, 0, none⟩)) rfl (by kernel_rfl) (by kernel_rfl) (by kernel_rfl) (fun _ _ _ h => h) (Or.inl ⟨by kernel_rfl, fun W hSW => by kernel_rfl⟩) hS ?_
            try simp only [Act.put, List.setIfInBounds_toArray, List.set_cons_zero, List.set_cons_succ]
            refine wpAnyH_take (i := 8) (oi := { dst := some 86, op := Op.fieldAddr 75 (Operand.tmp 7) 3, type := 0, pos := "turn.go:61", after := #[], guard := none }) (v := .pointer (some ⟨wr.heap.size, 3, none⟩)) rfl (by kernel_rfl) (by kernel_rfl) (by kernel_rfl) (fun _ _ _ h => h) (Or.inl ⟨by kernel_rfl, fun W hSW => by go_simp⟩) hS ?_
            try simp only [Act.put, List.setIfInBounds_toArray, List.set_cons_zero, List.set_cons_succ]
            refine wpAnyH_take (i := 9) (oi := { dst := some 87, op := Op.load 3 (Operand.tmp 86), type := 3, pos := "turn.go:61", after := #[{ on := 8, ground := Ground.data }], guard := none }) (v := .int .i64 (2)) rfl (by kernel_rfl) (by kernel_rfl) (by kernel_rfl) (fun _ _ _ h => h) (Or.inl ⟨by kernel_rfl, fun W hSW => by obtain ⟨h0, h1, h2, h3⟩ := hSW; go_simp⟩) hS ?_
            try simp only [Act.put, List.setIfInBounds_toArray, List.set_cons_zero, List.set_cons_succ]
            refine wpAnyH_take (i := 10) (oi := { dst := some 88, op := Op.fieldAddr 75 (Operand.tmp 7) 2, type := 0, pos := "turn.go:61", after := #[], guard := none }) (v := .pointer (some ⟨wr.heap.size, 2, none⟩)) rfl (by kernel_rfl) (by kernel_rfl) (by kernel_rfl) (fun _ _ _ h => h) (Or.inl ⟨by kernel_rfl, fun W hSW => by go_simp⟩) hS ?_
            try simp only [Act.put, List.setIfInBounds_toArray, List.set_cons_zero, List.set_cons_succ]
            refine wpAnyH_take (i := 11) (oi := { dst := some 89, op := Op.load 3 (Operand.tmp 88), type := 3, pos := "turn.go:61", after := #[{ on := 10, ground := Ground.data }], guard := none }) (v := .int .i64 (1)) rfl (by kernel_rfl) (by kernel_rfl) (by kernel_rfl) (fun _ _ _ h => h) (Or.inl ⟨by kernel_rfl, fun W hSW => by obtain ⟨h0, h1, h2, h3⟩ := hSW; go_simp⟩) hS ?_
            try simp only [Act.put, List.setIfInBounds_toArray, List.set_cons_zero, List.set_cons_succ]
            refine wpAnyH_take (i := 12) (oi := { dst := some 90, op := Op.binOp BinOp.sub 3 (Operand.tmp 87) (Operand.tmp 89) 3, type := 3, pos := "turn.go:61", after := #[{ on := 9, ground := Ground.data }, { on := 11, ground := Ground.data }], guard := none }) (v := .int .i64 (1)) rfl (by kernel_rfl) (by kernel_rfl) (by kernel_rfl) (fun _ _ _ h => h) (Or.inl ⟨by kernel_rfl, fun W hSW => by go_simp; rfl⟩) hS ?_
            try simp only [Act.put, List.setIfInBounds_toArray, List.set_cons_zero, List.set_cons_succ]
            refine wpAnyH_take (i := 13) (oi := { dst := some 91, op := Op.binOp BinOp.add 3 (Operand.tmp 90) (Operand.const (Value.int IntKind.i64 1)) 3, type := 3, pos := "turn.go:61", after := #[{ on := 12, ground := Ground.data }], guard := none }) (v := .int .i64 (2)) rfl (by kernel_rfl) (by kernel_rfl) (by kernel_rfl) (fun _ _ _ h => h) (Or.inl ⟨by kernel_rfl, fun W hSW => by go_simp; rfl⟩) hS ?_
            try simp only [Act.put, List.setIfInBounds_toArray, List.set_cons_zero, List.set_cons_succ]
            refine wpAnyH_take (i := 14) (oi := { dst := some 92, op := Op.binOp BinOp.shl 132 (Operand.const (Value.int IntKind.u32 1)) (Operand.tmp 91) 3, type := 132, pos := "turn.go:61", after := #[{ on := 13, ground := Ground.data }], guard := none }) (v := .int .u32 (4)) rfl (by kernel_rfl) (by kernel_rfl) (by kernel_rfl) (fun _ _ _ h => h) (Or.inl ⟨by kernel_rfl, fun W hSW => by go_simp; rfl⟩) hS ?_
            try simp only [Act.put, List.setIfInBounds_toArray, List.set_cons_zero, List.set_cons_succ]
            refine wpAnyH_take (i := 15) (oi := { dst := some 93, op := Op.binOp BinOp.sub 132 (Operand.tmp 92) (Operand.const (Value.int IntKind.u32 1)) 132, type := 132, pos := "turn.go:61", after := #[{ on := 14, ground := Ground.data }], guard := none }) (v := .int .u32 (3)) rfl (by kernel_rfl) (by kernel_rfl) (by kernel_rfl) (fun _ _ _ h => h) (Or.inl ⟨by kernel_rfl, fun W hSW => by go_simp; rfl⟩) hS ?_
            try simp only [Act.put, List.setIfInBounds_toArray, List.set_cons_zero, List.set_cons_succ]
            refine wpAnyH_take (i := 16) (oi := { dst := some 94, op := Op.fieldAddr 75 (Operand.tmp 7) 3, type := 0, pos := "turn.go:61", after := #[], guard := none }) (v := .pointer (some ⟨wr.heap.size, 3, none⟩)) rfl (by kernel_rfl) (by kernel_rfl) (by kernel_rfl) (fun _ _ _ h => h) (Or.inl ⟨by kernel_rfl, fun W hSW => by go_simp⟩) hS ?_
            try simp only [Act.put, List.setIfInBounds_toArray, List.set_cons_zero, List.set_cons_succ]
            refine wpAnyH_take (i := 17) (oi := { dst := some 95, op := Op.load 3 (Operand.tmp 94), type := 3, pos := "turn.go:61", after := #[{ on := 16, ground := Ground.data }], guard := none }) (v := .int .i64 (2)) rfl (by kernel_rfl) (by kernel_rfl) (by kernel_rfl) (fun _ _ _ h => h) (Or.inl ⟨by kernel_rfl, fun W hSW => by obtain ⟨h0, h1, h2, h3⟩ := hSW; go_simp⟩) hS ?_
            try simp only [Act.put, List.setIfInBounds_toArray, List.set_cons_zero, List.set_cons_succ]
            refine wpAnyH_take (i := 18) (oi := { dst := some 96, op := Op.unOp UnOp.neg 3 (Operand.tmp 95), type := 3, pos := "turn.go:61", after := #[{ on := 17, ground := Ground.data }], guard := none }) (v := .int .i64 (-2)) rfl (by kernel_rfl) (by kernel_rfl) (by kernel_rfl) (fun _ _ _ h => h) (Or.inl ⟨by kernel_rfl, fun W hSW => by go_simp; rfl⟩) hS ?_
            try simp only [Act.put, List.setIfInBounds_toArray, List.set_cons_zero, List.set_cons_succ]
            refine wpAnyH_take (i := 21) (oi := { dst := some 99, op := Op.indexAddr 134 (Operand.tmp 3) (Operand.tmp 79), type := 0, pos := "turn.go:61", after := #[{ on := 1, ground := Ground.data }], guard := none }) (v := .pointer (some ⟨(w.heap.size + 1), 6, none⟩)) rfl (by kernel_rfl) (by kernel_rfl) (by kernel_rfl) (fun _ _ _ h => h) (Or.inl ⟨by kernel_rfl, fun W hSW => by go_simp⟩) hS ?_
            try simp only [Act.put, List.setIfInBounds_toArray, List.set_cons_zero, List.set_cons_succ]
            refine wpAnyH_ready (rs := [6, 19]) (by kernel_rfl) (by simp) ?_
            refine AllReadyH.cons (o := { dst := some 84, op := Op.load 132 (Operand.tmp 83), type := 132, pos := "turn.go:61", after := #[{ on := 5, ground := Ground.data }], guard := none }) rfl (fun K hK => ?_) (AllReadyH.cons (o := { dst := some 97, op := Op.call { callee := Callee.value (Operand.func 95), args := #[Operand.tmp 85, Operand.tmp 93, Operand.tmp 96], argTypes := #[92, 132, 3] }, type := 132, pos := "turn.go:61", after := #[{ on := 7, ground := Ground.data }, { on := 15, ground := Ground.data }, { on := 18, ground := Ground.data }], guard := none }) rfl (fun K hK => ?_) AllReadyH.nil)
            · go_simp
              refine hK.out _ _ (hS) (fun hS => ?_)
              clear hK K
              try simp only [Act.put, List.setIfInBounds_toArray, List.set_cons_zero, List.set_cons_succ]
              refine wpAnyH_ready (rs := [19]) (by kernel_rfl) (by simp) ?_
              refine AllReadyH.cons (o := { dst := some 97, op := Op.call { callee := Callee.value (Operand.func 95), args := #[Operand.tmp 85, Operand.tmp 93, Operand.tmp 96], argTypes := #[92, 132, 3] }, type := 132, pos := "turn.go:61", after := #[{ on := 7, ground := Ground.data }, { on := 15, ground := Ground.data }, { on := 18, ground := Ground.data }], guard := none }) rfl (fun K hK => ?_) AllReadyH.nil
              go_simp
              refine Calls.mono (K95b.out _ (by exact PC17)) ?_
              rintro e w9 ⟨rfl, kk, rfl⟩
              refine hK.out _ _ (by exact SC17) (fun hS => ?_)
              clear hK K
              try simp only [Act.put, List.setIfInBounds_toArray, List.set_cons_zero, List.set_cons_succ]
              refine wpAnyH_take (i := 20) (oi := { dst := some 98, op := Op.binOp BinOp.and 132 (Operand.tmp 84) (Operand.tmp 97) 132, type := 132, pos := "turn.go:61", after := #[{ on := 6, ground := Ground.data }, { on := 19, ground := Ground.data }], guard := none }) (v := .int .u32 (6)) rfl (by kernel_rfl) (by kernel_rfl) (by kernel_rfl) (fun _ _ _ h => h) (Or.inl ⟨by kernel_rfl, fun W hSW => by go_simp; rfl⟩) hS ?_
              try simp only [Act.put, List.setIfInBounds_toArray, List.set_cons_zero, List.set_cons_succ]
              refine wpAnyH_take (i := 22) (oi := { dst := some 100, op := Op.indexAddr 133 (Operand.tmp 99) (Operand.tmp 81), type := 0, pos := "turn.go:61", after := #[{ on := 21, ground := Ground.data }, { on := 3, ground := Ground.data }, { on := 0, ground := Ground.phase }, { on := 1, ground := Ground.phase }, { on := 2, ground := Ground.phase }, { on := 3, ground := Ground.phase }, { on := 4, ground := Ground.phase }, { on := 5, ground := Ground.phase }, { on := 6, ground := Ground.phase }, { on := 7, ground := Ground.phase }, { on := 8, ground := Ground.phase }, { on := 9, ground := Ground.phase }, { on := 10, ground := Ground.phase }, { on := 11, ground := Ground.phase }, { on := 12, ground := Ground.phase }, { on := 13, ground := Ground.phase }, { on := 14, ground := Ground.phase }, { on := 15, ground := Ground.phase }, { on := 16, ground := Ground.phase }, { on := 17, ground := Ground.phase }, { on := 18, ground := Ground.phase }, { on := 19, ground := Ground.phase }, { on := 20, ground := Ground.phase }], guard := none }) (v := .pointer (some ⟨(w.heap.size + 1), 6, none⟩)) rfl (by kernel_rfl) (by kernel_rfl) (by kernel_rfl) (fun _ _ _ h => h) (Or.inl ⟨by kernel_rfl, fun W hSW => by go_simp⟩) hS ?_
              try simp only [Act.put, List.setIfInBounds_toArray, List.set_cons_zero, List.set_cons_succ]
              refine wpAnyH_ready (rs := [23]) (by kernel_rfl) (by simp) ?_
              refine AllReadyH.cons (o := { dst := none, op := Op.store 132 (Operand.tmp 100) (Operand.tmp 98), type := 0, pos := "turn.go:61", after := #[{ on := 22, ground := Ground.data }, { on := 20, ground := Ground.data }, { on := 19, ground := Ground.chain }, { on := 0, ground := Ground.phase }, { on := 1, ground := Ground.phase }, { on := 2, ground := Ground.phase }, { on := 3, ground := Ground.phase }, { on := 4, ground := Ground.phase }, { on := 5, ground := Ground.phase }, { on := 6, ground := Ground.phase }, { on := 7, ground := Ground.phase }, { on := 8, ground := Ground.phase }, { on := 9, ground := Ground.phase }, { on := 10, ground := Ground.phase }, { on := 11, ground := Ground.phase }, { on := 12, ground := Ground.phase }, { on := 13, ground := Ground.phase }, { on := 14, ground := Ground.phase }, { on := 15, ground := Ground.phase }, { on := 16, ground := Ground.phase }, { on := 17, ground := Ground.phase }, { on := 18, ground := Ground.phase }, { on := 19, ground := Ground.phase }, { on := 20, ground := Ground.phase }], guard := none }) rfl (fun K hK => ?_) AllReadyH.nil
              go_simp
              refine hK.out _ _ (by exact SD17) (fun hS => ?_)
              clear hK K
              try simp only [Act.put, List.setIfInBounds_toArray, List.set_cons_zero, List.set_cons_succ]
              refine wpAnyH_done (by kernel_rfl) ?_ _
              clear hv2 hf2 hv3 hf3
              go_wp2
              go_roundw
              case rel => exact ⟨1, by omega, rfl, Lib.hid ((N2b.out.set 6 6).congr fun x hx => (apF_end x hx).trans rfl), Lib.hid (N1b.out.far (p := ⟨w.heap.size + 1, 6, none⟩) (by simp only; omega) _), Lib.hid ((below_drewN ((below_drewN B1.out _).setCell (p := ⟨w.heap.size + 1, 1, none⟩) (Nat.le_succ _) _) _).setCell (p := ⟨w.heap.size + 1, 6, none⟩) (Nat.le_succ _) _)⟩
              case measure => simp [intOf]
            · go_simp
              refine Calls.mono (K95b.out _ (by exact PC17)) ?_
              rintro e w9 ⟨rfl, kk, rfl⟩
              refine hK.out _ _ (by exact SC17) (fun hS => ?_)
              clear hK K
              try simp only [Act.put, List.setIfInBounds_toArray, List.set_cons_zero, List.set_cons_succ]
              refine wpAnyH_ready (rs := [6]) (by kernel_rfl) (by simp) ?_
              refine AllReadyH.cons (o := { dst := some 84, op := Op.load 132 (Operand.tmp 83), type := 132, pos := "turn.go:61", after := #[{ on := 5, ground := Ground.data }], guard := none }) rfl (fun K hK => ?_) AllReadyH.nil
              go_simp
              refine hK.out _ _ (hS) (fun hS => ?_)
              clear hK K
              try simp only [Act.put, List.setIfInBounds_toArray, List.set_cons_zero, List.set_cons_succ]
              refine wpAnyH_take (i := 20) (oi := { dst := some 98, op := Op.binOp BinOp.and 132 (Operand.tmp 84) (Operand.tmp 97) 132, type := 132, pos := "turn.go:61", after := #[{ on := 6, ground := Ground.data }, { on := 19, ground := Ground.data }], guard := none }) (v := .int .u32 (6)) rfl (by kernel_rfl) (by kernel_rfl) (by kernel_rfl) (fun _ _ _ h => h) (Or.inl ⟨by kernel_rfl, fun W hSW => by go_simp; rfl⟩) hS ?_
              try simp only [Act.put, List.setIfInBounds_toArray, List.set_cons_zero, List.set_cons_succ]
              refine wpAnyH_take (i := 22) (oi := { dst := some 100, op := Op.indexAddr 133 (Operand.tmp 99) (Operand.tmp 81), type := 0, pos := "turn.go:61", after := #[{ on := 21, ground := Ground.data }, { on := 3, ground := Ground.data }, { on := 0, ground := Ground.phase }, { on := 1, ground := Ground.phase }, { on := 2, ground := Ground.phase }, { on := 3, ground := Ground.phase }, { on := 4, ground := Ground.phase }, { on := 5, ground := Ground.phase }, { on := 6, ground := Ground.phase }, { on := 7, ground := Ground.phase }, { on := 8, ground := Ground.phase }, { on := 9, ground := Ground.phase }, { on := 10, ground := Ground.phase }, { on := 11, ground := Ground.phase }, { on := 12, ground := Ground.phase }, { on := 13, ground := Ground.phase }, { on := 14, ground := Ground.phase }, { on := 15, ground := Ground.phase }, { on := 16, ground := Ground.phase }, { on := 17, ground := Ground.phase }, { on := 18, ground := Ground.phase }, { on := 19, ground := Ground.phase }, { on := 20, ground := Ground.phase }], guard := none }) (v := .pointer (some ⟨(w.heap.size + 1), 6, none⟩)) rfl (by kernel_rfl) (by kernel_rfl) (by kernel_rfl) (fun _ _ _ h => h) (Or.inl ⟨by kernel_rfl, fun W hSW => by go_simp⟩) hS ?_
              try simp only [Act.put, List.setIfInBounds_toArray, List.set_cons_zero, List.set_cons_succ]
              refine wpAnyH_ready (rs := [23]) (by kernel_rfl) (by simp) ?_
              refine AllReadyH.cons (o := { dst := none, op := Op.store 132 (Operand.tmp 100) (Operand.tmp 98), type := 0, pos := "turn.go:61", after := #[{ on := 22, ground := Ground.data }, { on := 20, ground := Ground.data }, { on := 19, ground := Ground.chain }, { on := 0, ground := Ground.phase }, { on := 1, ground := Ground.phase }, { on := 2, ground := Ground.phase }, { on := 3, ground := Ground.phase }, { on := 4, ground := Ground.phase }, { on := 5, ground := Ground.phase }, { on := 6, ground := Ground.phase }, { on := 7, ground := Ground.phase }, { on := 8, ground := Ground.phase }, { on := 9, ground := Ground.phase }, { on := 10, ground := Ground.phase }, { on := 11, ground := Ground.phase }, { on := 12, ground := Ground.phase }, { on := 13, ground := Ground.phase }, { on := 14, ground := Ground.phase }, { on := 15, ground := Ground.phase }, { on := 16, ground := Ground.phase }, { on := 17, ground := Ground.phase }, { on := 18, ground := Ground.phase }, { on := 19, ground := Ground.phase }, { on := 20, ground := Ground.phase }], guard := none }) rfl (fun K hK => ?_) AllReadyH.nil
              go_simp
              refine hK.out _ _ (by exact SD17) (fun hS => ?_)
              clear hK K
              try simp only [Act.put, List.setIfInBounds_toArray, List.set_cons_zero, List.set_cons_succ]
              refine wpAnyH_done (by kernel_rfl) ?_ _
              clear hv2 hf2 hv3 hf3
              go_wp2
              go_roundw
              case rel => exact ⟨1, by omega, rfl, Lib.hid ((N2b.out.set 6 6).congr fun x hx => (apF_end x hx).trans rfl), Lib.hid (N1b.out.far (p := ⟨w.heap.size + 1, 6, none⟩) (by simp only; omega) _), Lib.hid ((below_drewN ((below_drewN B1.out _).setCell (p := ⟨w.heap.size + 1, 1, none⟩) (Nat.le_succ _) _) _).setCell (p := ⟨w.heap.size + 1, 6, none⟩) (Nat.le_succ _) _)⟩
              case measure => simp [intOf]
        · have k1e : k = 1 := by omega
          have M2 : Hid (MatI wr (w.heap.size + 1) fun x => (apN x : Int)) := Lib.hid (by have := M2.out; rw [if_neg hk0] at this; exact this.congr apF_apN)
          have k0 : (0 : Int) ≤ (k : Int) := by omega
          have k2 : ¬ (k : Int) < 1 := by omega
          clear hk hk0 k1e
          have q0 := (HP.out.below B.out).t
          have q1 := (HP.out.below B.out).n
          have q2 := (HP.out.below B.out).s
          go_wp2
          clear q0 q1 q2
          go_loopw [8] (fun cv wr => ∃ c : Bool, cv = .bool c ∧ Hid (MatI wr (w.heap.size + 1) fun x => (apN x : Int)) ∧ Hid (MatI wr w.heap.size fun _ => 0) ∧ Hid (Below w.heap.size w wr)) (fun cv _ => match cv with | .bool true => 1 | _ => 0)
          case atStart => exact ⟨true, rfl, M2, M1, B⟩
          case round => as_aux_lemma =>
            obtain ⟨c, rfl, M2, M1, B⟩ := hrel
            have q0 := (HP.out.below B.out).t
            have q1 := (HP.out.below B.out).n
            cases c
            · have hR : wr.rangeAt (w.heap.size + 1) 0 matV := M2.out.range
              clear q0 q1
              have hT := M1.out.there
              go_wp2_with (first | refine wpList_load_mid rfl 134 (.tmp 3) rfl (w.heap.size + 1) 0 rfl matV _ hR hund rfl hinf ?_ | refine wpList_store_mid rfl 134 (.tmp 2) (.tmp 171) rfl w.heap.size 0 matV.toArray rfl rfl hT hinf2 hone ?_)
              refine bodyPost_ret (v := .agg matV.toArray) ?_ rfl ?_
              · exact results_cell_mid (g := w.heap.size) rfl _ _ matV _ rfl (World.rangeAt_setCells_same _ _ _ _ (by simpa using hT)) hund rfl hinf
              · exact ⟨rfl, below_sets (Nat.le_refl _) matV 0 B.out⟩
            · go_wp2
              go_loopw [8, 107] (fun cv kv wr => ∃ kk : Nat, kk ≤ 2 ∧ cv = .bool false ∧ kv = .int .i64 (kk : Int) ∧ Hid (MatI wr (w.heap.size + 1) fun x => (apN x : Int)) ∧ Hid (MatI wr w.heap.size fun _ => 0) ∧ Hid (Below w.heap.size w wr)) (fun _ kv _ => 2 - (intOf kv).toNat)
              case atStart => exact ⟨0, by omega, rfl, rfl, M2, M1, B⟩
              case round => as_aux_lemma =>
                obtain ⟨kk, hkk, rfl, rfl, M2, M1, B⟩ := hrel
                have q0 := (HP.out.below B.out).t
                have q1 := (HP.out.below B.out).n
                have kk0 : (0 : Int) ≤ (kk : Int) := by omega
                by_cases hkk2 : kk < 2
                · have kk2 : (kk : Int) < 2 := by omega
                  go_wp2
                  go_loopw [8, 114] (fun cv kv wr => ∃ ii : Nat, ii ≤ 2 ∧ cv = .bool false ∧ kv = .int .i64 (ii : Int) ∧ Hid (MatI wr (w.heap.size + 1) fun x => (apN x : Int)) ∧ Hid (MatI wr w.heap.size fun _ => 0) ∧ Hid (Below w.heap.size w wr)) (fun _ kv _ => 2 - (intOf kv).toNat)
                  case atStart => exact ⟨0, by omega, rfl, rfl, M2, M1, B⟩
                  case round => as_aux_lemma =>
                    obtain ⟨ii, hii, rfl, rfl, M2, M1, B⟩ := hrel
                    have q0 := (HP.out.below B.out).t
                    have q1 := (HP.out.below B.out).n
                    have ii0 : (0 : Int) ≤ (ii : Int) := by omega
                    by_cases hii2 : ii < 2
                    · have ii2 : (ii : Int) < 2 := by omega
                      go_wp2
                      go_loopw [8, 121] (fun cv kv wr => ∃ jj : Nat, jj ≤ 2 ∧ cv = .bool false ∧ kv = .int .i64 (jj : Int) ∧ Hid (MatI wr (w.heap.size + 1) fun x => (apN x : Int)) ∧ Hid (MatI wr w.heap.size fun _ => 0) ∧ Hid (Below w.heap.size w wr)) (fun _ kv _ => 2 - (intOf kv).toNat)
                      case atStart => exact ⟨0, by omega, rfl, rfl, M2, M1, B⟩
                      case round => as_aux_lemma =>
                        obtain ⟨jj, hjj, rfl, rfl, M2, M1, B⟩ := hrel
                        have q0 := (HP.out.below B.out).t
                        have q1 := (HP.out.below B.out).n
                        have jj0 : (0 : Int) ≤ (jj : Int) := by omega
                        by_cases hjj2 : jj < 2
                        · have jj2 : (jj : Int) < 2 := by omega
                          go_wp2
                          go_loopw [12, 128] (fun bv hv wr => ∃ h : Nat, h ≤ 3 ∧ hv = .int .i64 (h : Int) ∧ bv = .int .u32 (bF kk ii jj h : Int) ∧ Hid (MatI wr (w.heap.size + 1) fun x => (apN x : Int)) ∧ Hid (MatI wr w.heap.size fun _ => 0) ∧ Hid (Below w.heap.size w wr)) (fun _ hv _ => 3 - (intOf hv).toNat)
                          case atStart => exact ⟨0, by omega, rfl, rfl, M2, M1, B⟩
                          case round => as_aux_lemma =>
                            obtain ⟨h, hh, rfl, rfl, M2, M1, B⟩ := hrel
                            have q0 := (HP.out.below B.out).t
                            have h0 : (0 : Int) ≤ (h : Int) := by omega
                            by_cases hh3 : h < 3
                            · have h3 : (h : Int) < 3 := by omega
                              have hc1 := M2.out.cell (i := ii * 6 + kk) (by omega)
                              have hc2 := M2.out.cell (i := kk * 6 + jj) (by omega)
                              have ii6 : (ii : Int) < 6 := by omega
                              have kk6 : (kk : Int) < 6 := by omega
                              have jj6 : (jj : Int) < 6 := by omega
                              have hth : (h : Int).tmod 3 = (h : Int) ∧ ((h : Int) + 3).tmod 3 = (h : Int) := by
                                have : h = 0 ∨ h = 1 ∨ h = 2 := by omega
                                rcases this with rfl | rfl | rfl <;> exact ⟨rfl, rfl⟩
                              have K95 : Hid (∀ W, W.cell? ⟨p, 0, none⟩ = some (.int .i64 3) → Calls Tryz.prog 95 #[.pointer (some ⟨p, 0, none⟩), .int .u32 (apN (kk * 6 + jj) : Int), .int .i64 (h : Int)] W fun e w' => e = .returned (.int .u32 (turnV (apN (kk * 6 + jj)) h : Int)) ∧ ∃ k, w' = W.drewN k) := Lib.hid fun W hW => f95_any p (apN (kk * 6 + jj)) h h h W (apN_lt _ (by omega)) hW hth.1 (by omega) hth.2 (by omega)
                              clear hth
                              have hor := bF_or kk hkk2 ii hii2 jj hjj2 h hh3
                              have hbit := bF_bit kk hkk2 ii hii2 h hh3
                              have hst : Hid (bF kk ii jj (h + 1) = if (apN (ii * 6 + kk)).testBit h then bF kk ii jj h ||| turnV (apN (kk * 6 + jj)) h else bF kk ii jj h) := Lib.hid rfl
                              generalize (apN (ii * 6 + kk)).testBit h = tb at hbit hst
                              cases tb
                              · rw [if_neg (by simp)] at hst
                                go_wp2_with fail
                                go_quiet (fail)
                                go_wp2
                                go_roundw
                                case rel => exact ⟨h + 1, by omega, by go_num, by rw [hst.out], M2, M1, Lib.hid (below_drewN B.out _)⟩
                                case measure => simp [intOf]; omega
                              · rw [if_pos rfl] at hst
                                go_wp2_with fail
                                go_quiet (fail)
                                go_wp2_with fail
                                refine Calls.mono (K95.out _ (by exact q0)) ?_
                                rintro e w9 ⟨rfl, k9, rfl⟩
                                go_wp2
                                go_roundw
                                case rel => exact ⟨h + 1, by omega, by go_num, by rw [hst.out], M2, M1, Lib.hid (below_drewN B.out _)⟩
                                case measure => simp [intOf]; omega
                            · have h3 : ¬ (h : Int) < 3 := by omega
                              have h3e : h = 3 := by omega
                              have hc3 := M2.out.cell (i := ii * 6 + jj) (by omega)
                              have ii6 : (ii : Int) < 6 := by omega
                              have jj6 : (jj : Int) < 6 := by omega
                              have hand := bF_end kk hkk2 ii hii2 jj hjj2
                              go_wp2
                              go_roundw
                              case rel => exact ⟨jj + 1, by omega, rfl, by go_num, M2, M1, B⟩
                              case measure => simp [intOf]; omega
                        · have jj2 : ¬ (jj : Int) < 2 := by omega
                          go_wp2
                          go_roundw
                          case rel => exact ⟨ii + 1, by omega, rfl, by go_num, M2, M1, B⟩
                          case measure => simp [intOf]; omega
                    · have ii2 : ¬ (ii : Int) < 2 := by omega
                      go_wp2
                      go_roundw
                      case rel => exact ⟨kk + 1, by omega, rfl, by go_num, M2, M1, B⟩
                      case measure => simp [intOf]; omega
                · have kk2 : ¬ (kk : Int) < 2 := by omega
                  go_wp2
                  go_roundw
                  case rel => exact ⟨false, rfl, M2, M1, B⟩
                  case measure => simp
end Go.Proofs.YtmepndnckcpgjaaGreat
