/- Walks: Plans at one span. -/
import Derived.Test.YtmepndnckcpgjaaGreatT4
import Derived.Deep.DeepCutAuto
namespace Go.Proofs.YtmepndnckcpgjaaGreat
open Go.RowKit
theorem MatI.sets {o : Nat} : ∀ (l : List Int) (k : Nat) {W : World} {f : Nat → Int}, MatI W o f → MatI (W.setCells o k (l.map (Value.int .u32))) o fun x => if k ≤ x ∧ x < k + l.length then l.getD (x - k) 0 else f x
  | [], k, W, f, h => h.congr fun x _ => by rw [if_neg (by simp)]
  | a :: r, k, W, f, h => (MatI.sets r (k + 1) (h.set k a)).congr fun x _ => by
    simp only [List.length_cons]
    by_cases e1 : x = k
    · subst e1
      rw [if_neg (by omega), if_pos rfl, if_pos (by omega), Nat.sub_self]
      rfl
    · by_cases e2 : k + 1 ≤ x ∧ x < k + 1 + r.length
      · rw [if_pos e2, if_pos (by omega), show x - k = (x - (k + 1)) + 1 from by omega]
        rfl
      · rw [if_neg e2, if_neg e1, if_neg (by omega)]
def apL : List Int := (List.range 36).map fun i => (apN i : Int)
theorem apL_matV : apL.map (Value.int .u32) = matV := by simp [apL, matV]
theorem apL_at : ∀ x, x < 36 → (if 0 ≤ x ∧ x < 0 + apL.length then apL.getD (x - 0) 0 else 0) = (apN x : Int) := by decide +kernel
theorem MatI.stored {W : World} {o : Nat} (h : MatI W o fun _ => 0) : MatI (W.setCells o 0 matV) o fun x => (apN x : Int) := by
  rw [← apL_matV]
  exact (MatI.sets apL 0 h).congr apL_at
theorem make12 (W : World) : (Instr.makeSlice 23 (.int .i64 1) (.int .i64 2)).run Tryz.prog W = .ok (.slice (some ⟨W.heap.size, 0, none⟩) 1 2) (W.alloc (.cells #[.int .i64 0, .int .i64 0] 3)) := by
  obtain ⟨i0, hi, hz0, hz1, hz2⟩ := info_parts (show (Tryz.prog.info? 3).map (fun i => (i.zero, i.size, i.bytes)) = some (some (.int .i64 0), 1, 8) from by kernel_rfl)
  have hr := run_make (P := Tryz.prog) W 23 3 i0 (.int .i64 0) Tryz.underlying23 hi hz0 .i64 .i64 1 2 (by omega) (by omega) (by rw [hz2]; omega) (by omega)
  have e : madeCells (Value.int .i64 0).cells ((2 : Int).toNat * i0.size) = #[.int .i64 0, .int .i64 0] := by
    rw [hz1]
    apply Array.toList_inj.1
    exact (toList_madeCells_one _ _).trans (by rfl)
  exact hr.trans (by rw [e]; rfl)
theorem run_store_func (P : Program) (w : World) (a : Addr) (m : Mode) (f : Fn) (x y : Array Value) : (store a (.func f x y) m).run P w = stored P w a (.func f x y) m := run_store P w a _ m rfl
attribute [local go_sem] run_store_func
theorem three_new (W : World) (X Y Z : Array Value) (s t u : TypeId) {W6 : World} (h : ((W.alloc (.cells X s)).alloc (.cells Y t)).alloc (.cells Z u) = W6) :
    W6.heap[W.heap.size]? = some (.cells X s (0, 0)) ∧ W6.heap[W.heap.size + 1]? = some (.cells Y t (0, 0)) ∧ W6.heap[W.heap.size + 1 + 1]? = some (.cells Z u (0, 0)) ∧ Below W.heap.size W W6 := by
  have s1 : (W.alloc (.cells X s)).heap.size = W.heap.size + 1 := by simp
  have s2 : ((W.alloc (.cells X s)).alloc (.cells Y t)).heap.size = W.heap.size + 1 + 1 := by simp
  have b1 := below_alloc W (.cells X s)
  have b2 := below_alloc (W.alloc (.cells X s)) (.cells Y t)
  have b3 := below_alloc ((W.alloc (.cells X s)).alloc (.cells Y t)) (.cells Z u)
  have h1 := heap_alloc_new W (.cells X s)
  have h2 := heap_alloc_new (W.alloc (.cells X s)) (.cells Y t)
  have h3 := heap_alloc_new ((W.alloc (.cells X s)).alloc (.cells Y t)) (.cells Z u)
  rw [s1] at h2 b2
  rw [s2] at h3 b3
  rw [h] at h3 b3
  exact ⟨(b3.block _ (by omega)).trans ((b2.block _ (by omega)).trans h1), (b3.block _ (by omega)).trans h2, h3, (b1.trans (b2.mono (by omega))).trans (b3.mono (by omega))⟩
theorem frozen_row {W : World} {g : Nat} {X : Array Value} {t : TypeId} (h : W.heap[g]? = some (.cells X t (0, 0))) (i : Nat) : W.frozen? ⟨g, i, none⟩ = false := by
  simp only [World.frozen?, h]
  rfl
theorem one_mat (w : World) (Z : Array Value) (hZ : Z = ((List.range 36).map fun _ => Value.int .u32 0).toArray) : ∃ W, w.alloc (.cells Z 134) = W ∧ MatI W w.heap.size (fun _ => 0) ∧ Below w.heap.size w W := by
  subst hZ
  exact ⟨_, rfl, heap_alloc_new w _, below_alloc w _⟩
theorem below_cells {n b : Nat} {W W2 : World} (h : Below n W W2) (hb : n ≤ b) (vs : List Value) (o : Nat) : Below n W (W2.setCells b o vs) := below_sets hb vs o h
set_option maxRecDepth 100000 in
set_option maxHeartbeats 8000000 in
/-- (*plan).each at one span, counting. -/
theorem f61_any (p b mb : Nat) (w : World) (h : Plan1 w p b) (hpm : p < mb) (hm : w.cell? ⟨mb, 0, none⟩ = some (.int .i64 0)) (hmf : w.frozen? ⟨mb, 0, none⟩ = false) :
    Calls Tryz.prog 61 #[.pointer (some ⟨p, 0, none⟩), .func (.func 62) #[] #[.pointer (some ⟨mb, 0, none⟩)]] w fun e w' =>
      e = .returned (.bool false) ∧ w'.cell? ⟨mb, 0, none⟩ = some (.int .i64 2) ∧ Below p w w' := by
  have b1 := below_alloc w (.cells #[.pointer (some ⟨p, 0, none⟩)] 92)
  have b2 := below_step b1 (below_alloc (w.alloc (.cells #[.pointer (some ⟨p, 0, none⟩)] 92)) (.cells #[.func (.func 62) #[] #[.pointer (some ⟨mb, 0, none⟩)]] 65))
  have H2 := Lib.hid (h.below b2)
  have B2 := Lib.hid b2
  have HM := Lib.hid hm
  have HF := Lib.hid hmf
  have hmk : ∀ (fn : Fn) (first cap : Array Value) (w : World), (Instr.makeFunc fn first cap).run Tryz.prog w = .ok (.func fn first cap) w := fun _ _ _ _ => rfl
  have hms := make12
  have hltm := lt_of_cell hm
  have K92 : Hid (∀ W, Plan1 W p b → Calls Tryz.prog 92 #[.pointer (some ⟨p, 0, none⟩)] W fun e w' => e = .returned (.agg matV.toArray) ∧ Below W.heap.size W w') := Lib.hid fun W hW => f92_any p b W hW
  clear h b1 b2 hm hmf
  go_enter Tryz.func61, Tryz.ntmps61
  go_wp2_with fail
  refine (K92.out _ H2.out).mono ?_
  rintro e w3 ⟨rfl, hb3⟩
  have s3 : w.heap.size + 2 ≤ w3.heap.size := by have := hb3.size; simpa using this
  have B3 := Lib.hid (below_step B2.out hb3)
  have H3 := Lib.hid (H2.out.below hb3)
  have P3 : Hid (w3.cell? ⟨w.heap.size, 0, none⟩ = some (.pointer (some ⟨p, 0, none⟩))) := Lib.hid ((hb3.cell (by simp; try omega)).trans (by simp))
  have V3 : Hid (w3.cell? ⟨w.heap.size + 1, 0, none⟩ = some (.func (.func 62) #[] #[.pointer (some ⟨mb, 0, none⟩)])) := Lib.hid ((hb3.cell (by simp; try omega)).trans (by simp))
  clear hb3
  obtain ⟨W4, hW4, m4, b4⟩ := one_mat w3 #[.int .u32 0, .int .u32 0, .int .u32 0, .int .u32 0, .int .u32 0, .int .u32 0, .int .u32 0, .int .u32 0, .int .u32 0, .int .u32 0, .int .u32 0, .int .u32 0, .int .u32 0, .int .u32 0, .int .u32 0, .int .u32 0, .int .u32 0, .int .u32 0, .int .u32 0, .int .u32 0, .int .u32 0, .int .u32 0, .int .u32 0, .int .u32 0, .int .u32 0, .int .u32 0, .int .u32 0, .int .u32 0, .int .u32 0, .int .u32 0, .int .u32 0, .int .u32 0, .int .u32 0, .int .u32 0, .int .u32 0, .int .u32 0] rfl
  have M4 := Lib.hid m4
  have B4 := Lib.hid b4
  have hT := m4.there
  clear m4 b4
  go_upto_region 2 with (first | refine wpList_store_mid rfl 134 (.tmp 5) (.tmp 9) rfl w3.heap.size 0 matV.toArray rfl rfl hT hinf2 hone ?_)
  generalize hW5 : W4.setCells w3.heap.size 0 matV.toArray.toList = W5
  have m5 : MatI W5 w3.heap.size fun x => (apN x : Int) := by rw [← hW5]; exact M4.out.stored
  have b5 : Below w3.heap.size w3 W5 := by rw [← hW5]; exact below_sets (Nat.le_refl _) matV 0 B4.out
  have P5 := Lib.hid ((b5.cell (lt_of_cell P3.out)).trans P3.out)
  have V5 := Lib.hid ((b5.cell (lt_of_cell V3.out)).trans V3.out)
  have H5 := Lib.hid (H3.out.below b5)
  have B5 := Lib.hid (below_step B3.out b5)
  have s5 := m5.lt
  have M5 := Lib.hid m5
  clear hW5 hW4 hT m5 b5 P3 V3 H3 M4 B4
  have c1 := P5.out
  have c2 := H5.out.n
  go_upto_region 5 with fail
  generalize hW6 : ((W5.alloc (.cells #[.int .i64 0, .int .i64 0] 3)).alloc (.cells #[.slice (some ⟨W5.heap.size, 0, none⟩) 1 2] 23)).alloc (.cells #[.func (.func 93) #[] #[.pointer (some ⟨W5.heap.size + 1, 0, none⟩), .pointer (some ⟨w.heap.size, 0, none⟩), .pointer (some ⟨w.heap.size + 1, 0, none⟩), .pointer (some ⟨w3.heap.size, 0, none⟩), .pointer (some ⟨W5.heap.size + 1 + 1, 0, none⟩)]] 136) = W6
  obtain ⟨r1, r2, r3, b6⟩ := three_new W5 _ _ _ _ _ _ hW6
  have hm5 := (B5.out.cell (p := ⟨mb, 0, none⟩) hltm).trans HM.out
  have hf5 := (frozen_below B5.out (a := ⟨mb, 0, none⟩) hltm).trans HF.out
  have ts : TS p mb w.heap.size (w.heap.size + 1) w3.heap.size W5.heap.size (W5.heap.size + 1) (W5.heap.size + 1 + 1) W6 0 1 :=
    ⟨⟨hpm, hltm, by omega, by omega, s5, by omega, by omega⟩, (b6.cell (lt_of_cell H5.out.t)).trans H5.out.t, (b6.cell (lt_of_cell H5.out.n)).trans H5.out.n, (b6.cell (lt_of_cell hm5)).trans hm5, (frozen_below b6 (a := ⟨mb, 0, none⟩) (lt_of_cell hm5)).trans hf5,
      (b6.cell (lt_of_cell P5.out)).trans P5.out, (b6.cell (lt_of_cell V5.out)).trans V5.out, M5.out.below b6, (cell_of_row W6 _ 0 _ 23 (0, 0) r2).trans rfl, frozen_row r2 0, ⟨0, (cell_of_row W6 _ 0 _ 3 (0, 0) r1).trans rfl⟩, ⟨0, (cell_of_row W6 _ 1 _ 3 (0, 0) r1).trans rfl⟩, frozen_row r1 1, (cell_of_row W6 _ 0 _ 136 (0, 0) r3).trans rfl⟩
  have k0 : W6.cell? ⟨w3.heap.size, 0, none⟩ = some (.int .u32 1) := (ts.cap.cell (i := 0) (by omega)).trans rfl
  have k1 : W6.cell? ⟨w3.heap.size, 1, none⟩ = some (.int .u32 6) := (ts.cap.cell (i := 1) (by omega)).trans rfl
  have k2 : W6.cell? ⟨w3.heap.size, 2, none⟩ = some (.int .u32 0) := (ts.cap.cell (i := 2) (by omega)).trans rfl
  have k3 : W6.cell? ⟨w3.heap.size, 3, none⟩ = some (.int .u32 0) := (ts.cap.cell (i := 3) (by omega)).trans rfl
  have k4 : W6.cell? ⟨w3.heap.size, 4, none⟩ = some (.int .u32 0) := (ts.cap.cell (i := 4) (by omega)).trans rfl
  have k5 : W6.cell? ⟨w3.heap.size, 5, none⟩ = some (.int .u32 0) := (ts.cap.cell (i := 5) (by omega)).trans rfl
  have k6 := ts.cov
  have TSH := Lib.hid ts
  have B6 : Hid (Below p w W6) := Lib.hid ((B5.out.mono (show p ≤ w.heap.size by omega)).trans (b6.mono (show p ≤ W5.heap.size by have := B5.out.size; omega)))
  have e93 : ∀ (args : Array Value) (w : World), (callFunc 93 args).run Tryz.prog w = .ok (.enter 93 args) w := fun args w => by simp [go_sem]
  clear hW6 r1 r2 r3 b6 hm5 hf5 ts c1 c2
  go_wp2_with fail
  refine (f93_top W6 TSH.out).mono ?_
  rintro e w7 ⟨rfl, h7, b7⟩
  have H7 := Lib.hid h7
  have B7 := Lib.hid (B6.out.trans b7)
  clear h7 b7 k0 k1 k2 k3 k4 k5 k6
  go_wp2
  go_ret
  exact ⟨rfl, H7.out.cm, B7.out⟩
set_option maxRecDepth 100000 in
set_option maxHeartbeats 8000000 in
/-- turn.Plans at one span. -/
theorem f42_one (b : Nat) (w : World) (h : Span1 w b) :
    Calls Tryz.prog 42 #[.int .i64 3, .int .i64 2, .slice (some ⟨b, 0, none⟩) 1 1] w fun e w' => e = .returned (.tuple #[.int .i64 2, .int .i64 0]) ∧ Below w.heap.size w w' := by
  have hmk : ∀ (fn : Fn) (first cap : Array Value) (w : World), (Instr.makeFunc fn first cap).run Tryz.prog w = .ok (.func fn first cap) w := fun _ _ _ _ => rfl
  have K60 := Lib.hid (f60_one b w h)
  clear h
  go_enter Tryz.func42, Tryz.ntmps42
  go_wp2_with fail
  refine K60.out.mono ?_
  rintro e w1 ⟨p, rfl, hp, hb, hsz⟩
  have hpl := lt_of_cell hp.t
  have b2 := below_alloc w1 (.cells #[.int .i64 0] 3)
  have H2 := Lib.hid (hp.below b2)
  have B2 := Lib.hid (below_step hb b2)
  have K61 := Lib.hid (f61_any p b w1.heap.size (w1.alloc (.cells #[.int .i64 0] 3)) H2.out hpl ((cell_new w1 _ 3 0).trans rfl) (frozen_row (heap_alloc_new w1 _) 0))
  clear hp hb b2
  go_wp2_with fail
  refine K61.out.mono ?_
  rintro e w3 ⟨rfl, hc, hb3⟩
  have B3 := Lib.hid (B2.out.trans (hb3.mono hsz))
  clear hb3
  go_wp2
  go_ret2
  exact ⟨rfl, B3.out⟩
end Go.Proofs.YtmepndnckcpgjaaGreat
