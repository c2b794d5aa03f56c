/- Walks: transversals; Transversals. -/
import Derived.Test.YtiodednhadnekaaDoorW17
namespace Go.Proofs.YtiodednhadnekaaDoor
open Go.RowKit Go.Deep

theorem run_store_func (P : Program) (w : World) (a : Addr) (m : Mode) (f : Fn) (x y : Array Value) : (store a (.func f x y) m).run P w = stored P w a (.func f x y) m := run_store P w a _ m rfl
attribute [local go_sem] run_store_func
/-- Four variables. -/
theorem four_new (w : World) (v1 v2 v3 v4 : Value) (t1 t2 t3 t4 : TypeId) : ∃ wz, wz = ((((w.alloc (.cells #[v1] t1)).alloc (.cells #[v2] t2)).alloc (.cells #[v3] t3)).alloc (.cells #[v4] t4)) ∧ Below w.heap.size w wz ∧
    wz.cell? ⟨w.heap.size, 0, none⟩ = some v1 ∧ wz.cell? ⟨w.heap.size + 1, 0, none⟩ = some v2 ∧ wz.cell? ⟨w.heap.size + 1 + 1, 0, none⟩ = some v3 ∧ wz.cell? ⟨w.heap.size + 1 + 1 + 1, 0, none⟩ = some v4 := by
  have s1 : (w.alloc (.cells #[v1] t1)).heap.size = w.heap.size + 1 := by simp
  have a1 : (w.alloc (.cells #[v1] t1)).heap[w.heap.size]? = some (.cells #[v1] t1 (0, 0)) := heap_alloc_new w _
  obtain ⟨w1, hw1⟩ : ∃ z, z = w.alloc (.cells #[v1] t1) := ⟨_, rfl⟩
  have b1 : Below w.heap.size w w1 := by rw [hw1]; exact below_alloc w _
  rw [← hw1] at s1 a1 ⊢
  have s2 : (w1.alloc (.cells #[v2] t2)).heap.size = w.heap.size + 1 + 1 := by simp [s1]
  have a2 : (w1.alloc (.cells #[v2] t2)).heap[w.heap.size + 1]? = some (.cells #[v2] t2 (0, 0)) := by rw [← s1]; exact heap_alloc_new w1 _
  have a12 := (Below.heap_alloc w1 (.cells #[v2] t2) w.heap.size (by omega)).trans a1
  obtain ⟨w2, hw2⟩ : ∃ z, z = w1.alloc (.cells #[v2] t2) := ⟨_, rfl⟩
  have b2 : Below w.heap.size w w2 := by rw [hw2]; exact b1.alloc (by omega) _
  rw [← hw2] at s2 a2 a12 ⊢
  have s3 : (w2.alloc (.cells #[v3] t3)).heap.size = w.heap.size + 1 + 1 + 1 := by simp [s2]
  have a3 : (w2.alloc (.cells #[v3] t3)).heap[w.heap.size + 1 + 1]? = some (.cells #[v3] t3 (0, 0)) := by rw [← s2]; exact heap_alloc_new w2 _
  have a13 := (Below.heap_alloc w2 (.cells #[v3] t3) w.heap.size (by omega)).trans a12
  have a23 := (Below.heap_alloc w2 (.cells #[v3] t3) (w.heap.size + 1) (by omega)).trans a2
  obtain ⟨w3, hw3⟩ : ∃ z, z = w2.alloc (.cells #[v3] t3) := ⟨_, rfl⟩
  have b3 : Below w.heap.size w w3 := by rw [hw3]; exact b2.alloc (by omega) _
  rw [← hw3] at s3 a3 a13 a23 ⊢
  have a4 : (w3.alloc (.cells #[v4] t4)).heap[w.heap.size + 1 + 1 + 1]? = some (.cells #[v4] t4 (0, 0)) := by rw [← s3]; exact heap_alloc_new w3 _
  have a14 := (Below.heap_alloc w3 (.cells #[v4] t4) w.heap.size (by omega)).trans a13
  have a24 := (Below.heap_alloc w3 (.cells #[v4] t4) (w.heap.size + 1) (by omega)).trans a23
  have a34 := (Below.heap_alloc w3 (.cells #[v4] t4) (w.heap.size + 1 + 1) (by omega)).trans a3
  obtain ⟨w4, hw4⟩ : ∃ z, z = w3.alloc (.cells #[v4] t4) := ⟨_, rfl⟩
  have b4 : Below w.heap.size w w4 := by rw [hw4]; exact b3.alloc (by omega) _
  rw [← hw4] at a4 a14 a24 a34 ⊢
  refine ⟨_, rfl, b4, ?_, ?_, ?_, ?_⟩
  · rw [cell_of_row _ _ 0 _ _ _ a14]; rfl
  · rw [cell_of_row _ _ 0 _ _ _ a24]; rfl
  · rw [cell_of_row _ _ 0 _ _ _ a34]; rfl
  · rw [cell_of_row _ _ 0 _ _ _ a4]; rfl
section
variable (n base : Nat) (fv : FuncId) (caps : Array Value) (stop : Bool) (Own : World → Nat → Prop) (I : List (List Nat) → World → Prop) (V : Visit n base fv caps stop Own I) (b : List (List Int)) (w0 : World) (B : Option Addr) (cb : Nat)
include V
set_option maxHeartbeats 1000000 in
/-- bed.transversals -/
theorem f61_any (w : World) (hb : IsFull n b) (hs : Beds w0 B n cb b) (hbase : base = w0.heap.size) (hbel : Below base w0 w) (hn7 : n ≤ 7) (hI : I [] w) :
    Calls Tryd.prog 61 #[.slice B n cb, .func (.func fv) #[] caps] w fun e w' => e = .returned (.bool (hit stop (trans b n))) ∧ I (vis stop (trans b n)) w' ∧ Kept Own w w' := by
  have hen := enter94
  have hmf : ∀ (fn : Fn) (first cap : Array Value) (w : World), (Instr.makeFunc fn first cap).run Tryd.prog w = .ok (.func fn first cap) w := fun _ _ _ _ => rfl
  have hsm := hs.small
  obtain ⟨wz, hwz, hbz, c1, c2, c3, c4⟩ := four_new w (.slice B n cb) (.func (.func fv) #[] caps) (.int .i64 (n : Int)) (.func (.func 94) #[] #[.pointer (some ⟨w.heap.size + 1 + 1, 0, none⟩), .pointer (some ⟨w.heap.size + 1, 0, none⟩), .pointer (some ⟨w.heap.size, 0, none⟩), .pointer (some ⟨w.heap.size + 1 + 1 + 1, 0, none⟩)]) 22 68 3 91
  have hC : Ctx n base fv caps Own w0 B cb (w.heap.size + 1 + 1) (w.heap.size + 1) w.heap.size (w.heap.size + 1 + 1 + 1) wz := ⟨⟨c3, V.new hI hbz (by omega)⟩, ⟨c2, V.new hI hbz (by omega)⟩, ⟨c1, V.new hI hbz (by omega)⟩, ⟨c4, V.new hI hbz (by omega)⟩, hbel.trans (hbz.mono (by rw [hbase]; exact hbel.size)), by have := hbz.size; have := hbel.size; omega⟩
  have HK := Lib.hid (V.grow hI hbz)
  have K := Lib.hid (f94_any n base fv caps stop Own I V b w0 B cb (w.heap.size + 1 + 1) (w.heap.size + 1) w.heap.size (w.heap.size + 1 + 1 + 1) hb hs hbase hn7 n [] (by simp) (fun i hi => absurd hi (by simp)) [] none 0 wz (V.keep _ _ _ hI hbz).1 hC (IntsN.nil _ _) (fun _ => rfl) (by simp) (by
    have h1 := trF_len b n n []
    have h2 : n ^ n ≤ 7 ^ 7 := Nat.le_trans (Nat.pow_le_pow_left hn7 n) (Nat.pow_le_pow_right (by decide) hn7)
    have h3 : 7 ^ 7 = 823543 := by decide
    simp only [List.length_nil]
    omega))
  have e0 : (0 : Int) = (colsM [] : Int) := rfl
  have cc := c4
  clear hC hbz c1 c2 c3 V hb hs hbel hI
  simp only [List.length_nil, List.nil_append] at K
  have K2 : Hid (Calls Tryd.prog 94 #[.slice none 0 0, .int .i64 0, .int .i64 0, .pointer (some ⟨w.heap.size + 1 + 1, 0, none⟩), .pointer (some ⟨w.heap.size + 1, 0, none⟩), .pointer (some ⟨w.heap.size, 0, none⟩), .pointer (some ⟨w.heap.size + 1 + 1 + 1, 0, none⟩)] wz fun e w' => e = .returned (.bool (hit stop (trans b n))) ∧ I (vis stop (trans b n)) w' ∧ Kept Own wz w') := K.out
  clear K e0
  go_enter Tryd.func61, Tryd.ntmps61
  go_wp2_with fail
  rw [← hwz]
  clear hwz
  refine K2.out.mono ?_
  rintro e w' ⟨rfl, h1, h2⟩
  have H1 := Lib.hid h1
  have H2 := Lib.hid (HK.out.trans h2)
  clear h1 h2
  go_wp2
  go_ret
  exact ⟨rfl, H1.out, H2.out⟩
end
end Go.Proofs.YtiodednhadnekaaDoor
