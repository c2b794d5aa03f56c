/- Walks: orders. -/
import Derived.Test.YtpehhbiodmgjeaaW46
namespace Go.Proofs.Ytpehhbiodmgjeaa
open Go.RowKit
theorem three_boxes (w : World) (a b z u : Value) (ta tb tz : TypeId) :
    (((w.alloc (.cells #[a] ta)).alloc (.cells #[b] tb)).alloc (.cells #[z] tz)).cell? ⟨w.heap.size + 1 + 1, 0, none⟩ = some z ∧ (((w.alloc (.cells #[a] ta)).alloc (.cells #[b] tb)).alloc (.cells #[z] tz)).frozen? ⟨w.heap.size + 1 + 1, 0, none⟩ = false ∧
    ∃ W, (((w.alloc (.cells #[a] ta)).alloc (.cells #[b] tb)).alloc (.cells #[z] tz)).setCell ⟨w.heap.size + 1 + 1, 0, none⟩ u = W ∧ Box W w.heap.size a ta ∧ Box W (w.heap.size + 1) b tb ∧ Box W (w.heap.size + 1 + 1) u tz ∧ Below w.heap.size w W := by
  have s1 : (w.alloc (.cells #[a] ta)).heap.size = w.heap.size + 1 := by simp
  have a1 : (w.alloc (.cells #[a] ta)).heap[w.heap.size]? = some (.cells #[a] ta (0, 0)) := heap_alloc_new w _
  obtain ⟨w1, hw1⟩ : ∃ z, z = w.alloc (.cells #[a] ta) := ⟨_, rfl⟩
  have b1 : Below w.heap.size w w1 := by rw [hw1]; exact below_alloc w _
  rw [← hw1] at s1 a1 ⊢
  have s2 : (w1.alloc (.cells #[b] tb)).heap.size = w.heap.size + 1 + 1 := by simp [s1]
  have a2 : (w1.alloc (.cells #[b] tb)).heap[w.heap.size + 1]? = some (.cells #[b] tb (0, 0)) := by rw [← s1]; exact heap_alloc_new w1 _
  have a12 := (Below.heap_alloc w1 (.cells #[b] tb) w.heap.size (by omega)).trans a1
  obtain ⟨w2, hw2⟩ : ∃ z, z = w1.alloc (.cells #[b] tb) := ⟨_, rfl⟩
  have b2 : Below w.heap.size w w2 := by rw [hw2]; exact b1.alloc (by omega) _
  rw [← hw2] at s2 a2 a12 ⊢
  have s3 : (w2.alloc (.cells #[z] tz)).heap.size = w.heap.size + 1 + 1 + 1 := by simp [s2]
  have a3 : (w2.alloc (.cells #[z] tz)).heap[w.heap.size + 1 + 1]? = some (.cells #[z] tz (0, 0)) := by rw [← s2]; exact heap_alloc_new w2 _
  have a13 := (Below.heap_alloc w2 (.cells #[z] tz) w.heap.size (by omega)).trans a12
  have a23 := (Below.heap_alloc w2 (.cells #[z] tz) (w.heap.size + 1) (by omega)).trans a2
  obtain ⟨w3, hw3⟩ : ∃ y, y = w2.alloc (.cells #[z] tz) := ⟨_, rfl⟩
  have b3 : Below w.heap.size w w3 := by rw [hw3]; exact b2.alloc (by omega) _
  rw [← hw3] at s3 a3 a13 a23 ⊢
  refine ⟨by rw [cell_of_row _ _ 0 _ _ _ a3]; rfl, by simp [World.frozen?, a3], _, rfl, ?_, ?_, ?_, ?_⟩
  · exact (Below.heap_setCell w3 ⟨w.heap.size + 1 + 1, 0, none⟩ u w.heap.size (by simp only; omega)).trans a13
  · exact (Below.heap_setCell w3 ⟨w.heap.size + 1 + 1, 0, none⟩ u (w.heap.size + 1) (by simp only; omega)).trans a23
  · unfold Box
    simp [World.setCell, Array.getElem?_modify, a3]
  · exact b3.setCell (by simp only; omega) _
set_option maxRecDepth 100000 in
set_option maxHeartbeats 4000000 in
/-- (*costs).orders, with what Corners does at each -/
theorem f74_any (w0 : World) (B pC p n len c : Nat) (A : Option Addr) (xs : List Int) (H : CosI w0 pC p n len c A xs) (hB : B = w0.heap.size) (w : World) (hb : Below B w0 w) (hst : St B [] w) :
    Calls Try.prog 74 #[.pointer (some ⟨p, 0, none⟩), .func (.func 75) #[] #[.pointer (some ⟨B, 0, none⟩), .pointer (some ⟨pC, 0, none⟩)]] w fun e w' => e = .returned (.tuple #[]) ∧ St B (gsL n xs) w' ∧ KeptT B w w' := by
  have hen := enter91
  have hmf : ∀ (fn : Fn) (first cap : Array Value) (w : World), (Instr.makeFunc fn first cap).run Try.prog w = .ok (.func fn first cap) w := fun _ _ _ _ => rfl
  have hsf : ∀ (a : Addr) (fn : Fn) (first cap : Array Value) (m : Mode) (w : World), (store a (.func fn first cap) m).run Try.prog w = stored Try.prog w a (.func fn first cap) m := fun a fn first cap m w => run_store Try.prog w a _ m rfl
  obtain ⟨hz1, hz2, W, hW, hx1, hx2, hx3, hx4⟩ := three_boxes w (.pointer (some ⟨p, 0, none⟩)) (.func (.func 75) #[] #[.pointer (some ⟨B, 0, none⟩), .pointer (some ⟨pC, 0, none⟩)]) .nilFunc (.func (.func 91) #[] #[.pointer (some ⟨w.heap.size, 0, none⟩), .pointer (some ⟨w.heap.size + 1, 0, none⟩), .pointer (some ⟨w.heap.size + 1 + 1, 0, none⟩)]) 52 79 86
  have hBl : B ≤ w.heap.size := Nat.le_of_lt hst.lt
  have hlen := ord_many H.n6
  have K := Lib.hid (f91_all w0 B pC p n len c A xs w.heap.size (w.heap.size + 1) (w.heap.size + 1 + 1) H hB n [] (by simp) [] none 0 W ⟨hx1, hx2, hx3, hb.trans (hx4.mono hBl)⟩ (hst.below hx4) (Ints.nil W none) (Own3.nil W) (Nat.le_refl _) (fun _ => ⟨rfl, rfl⟩) (fun x hx => by cases hx) (by simp; omega))
  have HG : Hid (gsL n xs = [] ++ (ordF n n []).map (greedyL n xs)) := rfl
  rw [← HG.out] at K
  have K : Hid (Calls Try.prog 91 #[.slice none 0 0, .int .i64 0, .pointer (some ⟨w.heap.size, 0, none⟩), .pointer (some ⟨w.heap.size + 1, 0, none⟩), .pointer (some ⟨w.heap.size + 1 + 1, 0, none⟩)] W fun e w' => e = .returned (.tuple #[]) ∧ St B (gsL n xs) w' ∧ KeptT B W w') := K
  have HK : Hid (KeptT B w W) := Lib.hid (KeptT.of hx4)
  have hx3 := hx3.cell
  clear H hb hst hB hx1 hx2 hx4 hBl hlen
  go_enter Try.func74, Try.ntmps74
  go_wp2_with fail
  refine K.out.mono ?_
  rintro e w1 ⟨rfl, h1, h2⟩
  have H1 := Lib.hid h1
  have H2 := Lib.hid (HK.out.trans h2)
  clear h1 h2
  go_wp2
  go_end0
  exact ⟨rfl, H1.out, H2.out⟩
end Go.Proofs.Ytpehhbiodmgjeaa
