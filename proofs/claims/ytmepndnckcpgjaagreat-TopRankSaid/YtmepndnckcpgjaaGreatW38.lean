/- slices.SortFunc at rows, in the words of these walks. -/
import Derived.Test.YtmepndnckcpgjaaGreatW36
import Derived.Test.YtmepndnckcpgjaaGreatW37
namespace Go.Proofs.YtmepndnckcpgjaaGreat
open Go.RowKit

/-- The cells at the head of block g. -/
def CellsV (w : World) (g : Nat) (vs : List Value) : Prop := ∀ j, j < vs.length → w.cell? ⟨g, j, none⟩ = some (vs.getD j (.int .i64 0)) ∧ w.frozen? ⟨g, j, none⟩ = false
/-- A slice of ints, of one cell's value, that lies beside block g. -/
def LiesV (w : World) (g : Nat) (v : Value) (l : List Int) : Prop := ∃ A c, v = .slice A l.length c ∧ Ints w A l.length l ∧ ∀ a, A = some a → a.block ≠ g ∧ a.block < w.heap.size
theorem LiesV.same {w w' : World} {g : Nat} {v : Value} {l : List Int} (h : LiesV w g v l) (hc : ∀ a : Addr, a.block ≠ g → a.block < w.heap.size → w'.cell? a = w.cell? a) (hs : w.heap.size ≤ w'.heap.size) : LiesV w' g v l := by
  obtain ⟨A, c, e, hi, ha⟩ := h
  refine ⟨A, c, e, ⟨hi.1, hi.2.1, fun hp => ?_⟩, fun a e2 => ⟨(ha a e2).1, Nat.lt_of_lt_of_le (ha a e2).2 hs⟩⟩
  obtain ⟨b, off, e2, h2⟩ := hi.2.2 hp
  have h3 := ha _ e2
  exact ⟨b, off, e2, fun j hj => (hc ⟨b, off + j, none⟩ h3.1 h3.2).trans (h2 j hj)⟩
theorem sw_cell {α : Type} [Inhabited α] (enc : α → Value) (w : World) (g m : Nat) (dk : Array α) (os : Array Obj) (a : Addr) (ha : a.block ≠ g) (hl : a.block < w.heap.size) : (sortWorld enc w g 0 m dk os).cell? a = w.cell? a := by
  unfold sortWorld
  rw [Sort.cell?_grow _ _ _ (by rw [Sort.size_putRow, Sort.heap_ahead]; exact hl), Sort.cell?_putRow_other _ _ _ _ _ _ (.inl ha), Sort.cell?_ahead]
theorem sw_size {α : Type} [Inhabited α] (enc : α → Value) (w : World) (g m : Nat) (dk : Array α) (os : Array Obj) : w.heap.size ≤ (sortWorld enc w g 0 m dk os).heap.size := by
  unfold sortWorld
  rw [Sort.size_grow, Sort.size_putRow, Sort.heap_ahead]
  omega
theorem sw_grown {α : Type} [Inhabited α] (enc : α → Value) (w : World) (g m : Nat) (dk : Array α) (os : Array Obj) : w.grownBy (sortWorld enc w g 0 m dk os) (some g) :=
  ⟨rfl, rfl, rfl, sw_size enc w g m dk os, fun k hk hne => by
    have hkg : g ≠ k := fun e => hne (by rw [e])
    unfold sortWorld
    have h1 := Sort.heap_grow_old (Sort.putRow enc (Sort.ahead w m) g 0 dk) os (k := k) (by rw [Sort.size_putRow, Sort.heap_ahead]; exact hk)
    rw [h1]
    unfold Sort.putRow Sort.mapBlock
    rw [Array.getElem?_modify, if_neg hkg, Sort.heap_ahead]⟩
theorem enter77 (args : Array Value) (w : World) : (callFunc 25 args).run Tryz.prog w = .ok (.enter 25 args) w := by simp [go_sem]
theorem swo_rows {m : Nat} (L : Fin m → List Int) : Sort.SWO (ltOf fun i j : Fin m => cmpL (L i) (L j)) := by
  have irr : ∀ x, cmpL x x = 0 := cmpL_irr
  refine ⟨fun x => ?_, fun x y z h1 h2 => ?_, fun x y z h1 h2 => ?_⟩
  · show decide (cmpL (L x) (L x) < 0) = false
    rw [irr]; rfl
  · unfold ltOf at h1 h2 ⊢
    rw [decide_eq_true_eq] at h1 h2 ⊢
    exact cmpL_trans h1 h2
  · unfold ltOf at h1 h2 ⊢
    rw [decide_eq_false_iff_not] at h1 h2 ⊢
    intro h3
    have h3 : cmpL (L x) (L z) < 0 := h3
    by_cases h4 : cmpL (L y) (L x) < 0
    · exact h2 (cmpL_trans h4 h3)
    · rw [cmpL_total h1 h4] at h3
      exact h2 h3
theorem f76_rows (g m cap : Nat) (vs : List Value) (L : List (List Int)) (w : World) (hm : 0 < m) (hv : vs.length = m) (hL : L.length = m) (h1M : m ≤ 1000000) (hone : ∀ j, j < m → (vs.getD j (.int .i64 0)).oneCell' = true) (hc : CellsV w g vs) (hg : g < w.heap.size) (hr : ∀ j, j < m → LiesV w g (vs.getD j (.int .i64 0)) (L.getD j [])) :
    Calls Tryz.prog 24 #[.slice (some ⟨g, 0, none⟩) m cap, .func (.func 25) #[] #[]] w fun e w' => e = .returned (.tuple #[]) ∧ ∃ p : List Nat, p.Perm (List.range m) ∧ (p.map fun j => L.getD j []).Pairwise (fun a b => ¬ cmpL b a < 0) ∧
      CellsV w' g (p.map fun j => vs.getD j (.int .i64 0)) ∧ (∀ a : Addr, a.block ≠ g → a.block < w.heap.size → w'.cell? a = w.cell? a) ∧ w.heap.size ≤ w'.heap.size ∧ w.grownBy w' (some g) := by
  haveI : Inhabited (Fin m) := ⟨⟨0, hm⟩⟩
  obtain ⟨enc, henc⟩ : ∃ enc : Fin m → Value, ∀ i, enc i = vs.getD i.1 (.int .i64 0) := ⟨_, fun _ => rfl⟩
  obtain ⟨d, hd⟩ : ∃ d : Array (Fin m), d = Array.ofFn fun i : Fin m => i := ⟨_, rfl⟩
  have hds : d.size = m := by rw [hd, Array.size_ofFn]
  have hdj : ∀ j (hj : j < m), d[j]! = ⟨j, hj⟩ := fun j hj => by
    rw [getElem!_pos d j (by omega)]
    simp [hd]
  have hcmp : CmpReads Tryz.prog 25 #[] enc (fun i j => cmpL (L.getD i.1 []) (L.getD j.1 [])) g 0 d.size w := fun k os dk hdk x y => by
    have hx := (hr x.1 x.2).same (fun a h1 h2 => sw_cell enc w g k dk os a h1 h2) (sw_size enc w g k dk os)
    have hy := (hr y.1 y.2).same (fun a h1 h2 => sw_cell enc w g k dk os a h1 h2) (sw_size enc w g k dk os)
    rw [← henc x] at hx
    rw [← henc y] at hy
    obtain ⟨A, ca, ex, hix, _⟩ := hx
    obtain ⟨B, cb, ey, hiy, _⟩ := hy
    rw [ex, ey]
    exact (f77_any A B _ ca _ cb _ _ _ hix hiy).mono fun e w' ⟨h1, h2⟩ => ⟨h1, 0, h2.symm⟩
  have hH : Sort.Holds enc w g 0 d := fun j hj => by
    rw [hds] at hj
    rw [hdj j hj, henc, Nat.zero_add]
    exact hc j (by omega)
  have K := Any.slices_SortFunc Tryz.sortRows enc (fun x => by rw [henc]; exact hone x.1 x.2) (fun i j => cmpL (L.getD i.1 []) (L.getD j.1 [])) (swo_rows fun i : Fin m => L.getD i.1 []) 25 #[] g 0 cap d w enter77 hcmp.lays hH hg (by omega)
  change Calls Tryz.prog 24 _ _ _ at K
  rw [hds] at K
  refine K.mono fun e w' ⟨h1, d', n, os, hp, hs, hw⟩ => ?_
  have hds2 : d'.size = d.size := hp.1
  refine ⟨h1, d'.toList.map (·.1), ?_, ?_, ?_, ?_, ?_, ?_⟩
  · have e1 : d'.extract 0 m = d' := by
      apply Array.ext
      · rw [Array.size_extract]; omega
      · intro i h1 h2; simp
    have e2 : d.extract 0 m = d := by
      apply Array.ext
      · rw [Array.size_extract]; omega
      · intro i h1 h2; simp
    have h3 := hp.2.2
    rw [e1, e2] at h3
    have e3 : d.toList.map (·.1) = List.range m := by
      apply List.ext_getElem
      · rw [List.length_map, List.length_range, Array.length_toList, hds]
      · intro i h1 h2
        simp [hd]
    rw [← e3]
    exact h3.map _
  · rw [List.pairwise_iff_getElem]
    intro i j hi hj hij
    rw [List.length_map, List.length_map, Array.length_toList] at hi hj
    have h3 := hs i j (Nat.zero_le _) hij (by omega)
    rw [getElem!_pos d' i hi, getElem!_pos d' j hj] at h3
    unfold ltOf at h3
    rw [decide_eq_false_iff_not] at h3
    simpa using h3
  · intro j hj
    rw [List.length_map, List.length_map, Array.length_toList] at hj
    have hjm : j < m := by omega
    have h3 := Sort.cell?_putRow enc (Sort.ahead w n) g 0 d d' hH hds2 j (by omega)
    have hval : ((d'.toList.map (·.1)).map fun j => vs.getD j (.int .i64 0)).getD j (.int .i64 0) = enc d'[j]! := by
      rw [henc, getElem!_pos d' j hj]
      simp [List.getD_eq_getElem?_getD, hj]
    rw [hval, hw]
    unfold sortWorld
    refine ⟨?_, ?_⟩
    · rw [Sort.cell?_grow _ _ _ (by rw [Sort.size_putRow, Sort.heap_ahead]; exact hg)]
      rw [Nat.zero_add] at h3
      exact h3
    · rw [Sort.frozen?_grow _ _ _ (by rw [Sort.size_putRow, Sort.heap_ahead]; exact hg), Sort.frozen?_putRow, Sort.frozen?_ahead]
      exact (hc j (by omega)).2
  · intro a ha hl
    rw [hw]
    exact sw_cell enc w g n d' os a ha hl
  · rw [hw]; exact sw_size enc w g n d' os
  · rw [hw]; exact sw_grown enc w g n d' os
end Go.Proofs.YtmepndnckcpgjaaGreat
