/- Walks: BedParted. -/
import Derived.Test.YtiodednhadnekaaDoorW47
namespace Go.Proofs.YtiodednhadnekaaDoor
open Go.RowKit Go.Deep
attribute [local go_sem ↓] Go.wp_at_zero Go.wp_at_succ

theorem make_bools (n : Nat) (hn : n ≤ 1000000) (W : World) : (Instr.makeSlice 31 (.int .i64 (n : Int)) (.int .i64 (n : Int))).run Tryd.prog W =
    .ok (.slice (some ⟨W.heap.size, 0, none⟩) n n) (W.alloc (.cells (List.replicate n (Value.bool false)).toArray 4)) := by
  obtain ⟨i0, hi, hz0, hz1, hz2⟩ := info_parts (show (Tryd.prog.info? 4).map (fun i => (i.zero, i.size, i.bytes)) = some (some (.bool false), 1, 1) from by kernel_rfl)
  have hr := run_make (P := Tryd.prog) W 31 4 i0 (.bool false) Tryd.underlying31 hi hz0 .i64 .i64 n n (by omega) (by omega) (by rw [hz2]; omega) (by omega)
  have e : madeCells (Value.bool false).cells ((n : Int).toNat * i0.size) = (List.replicate n (Value.bool false)).toArray := by
    rw [hz1, Nat.mul_one, Int.toNat_natCast]
    apply Array.toList_inj.1
    exact (toList_madeCells_one _ _).trans (by simp)
  exact hr.trans (by rw [e, Int.toNat_natCast])
/-- A row of slices of bools. -/
def RowU (w : World) (base : Nat) (v : Value) (vs : List Value) : Prop := w.ownsRow base 31 1 v vs.length vs
def mkU (n : Nat) (G : List Nat) : List Value := G.map fun g => Value.slice (some ⟨g, 0, none⟩) n n
theorem wpList_pushU {w : World} {ops : Array Oper} {rest : List Oper} {o : Oper} {a : Act} {Q : Exit → Act → World → Prop} (hgd : o.guard = none) (s x : Operand)
    (ho : o.op = .call { callee := .builtin .append, args := #[s, x], argTypes := #[30, 30] })
    (base : Nat) (v : Value) (vs : List Value) (hs : a.eval s = v) (hrow : RowU w base v vs) (g c : Nat) (B : Option Addr) (bn bc : Nat) (hx : a.eval x = .slice (some ⟨g, 0, none⟩) 1 c)
    (hc : w.cell? ⟨g, 0, none⟩ = some (.slice B bn bc)) (hl : vs.length ≤ 1000000) (hb : base ≤ w.heap.size)
    (h : ∀ g' c' w', RowU w' base (.slice (some ⟨g', 0, none⟩) (vs.length + 1) c') (vs ++ [.slice B bn bc]) → w.grownBy w' v.ownBlock → wpList Tryd.prog ops Q rest (a.put o.dst (.slice (some ⟨g', 0, none⟩) (vs.length + 1) c')) w') : wpList Tryd.prog ops Q (o :: rest) a w := by
  obtain ⟨i0, hi, hz0, hz1, hz2⟩ := info_parts (show (Tryd.prog.info? 31).map (fun i => (i.zero, i.size, i.bytes)) = some (some (.slice none 0 0), 1, 24) from by kernel_rfl)
  refine wpList_append_lies w hgd s x 30 ho base 31 i0 (.slice none 0 0) 1 24 Tryd.underlying30 hi hz0 hz1 hz2 rfl (by decide) v vs.length vs hs hrow ⟨g, 0, none⟩ 1 c [.slice B bn bc] hx rfl ?_ ?_ (by omega) ?_ ?_ hb _ rfl ?_
  · intro j u hj
    match j, hj with
    | 0, hj => simp at hj; subst hj; simpa [Addr.add] using hc
  · intro u hu; simp at hu; subst hu; rfl
  · unfold maxLen; omega
  · omega
  · intro g' cap w' h1 h2 _ _
    exact h g' cap w' (by unfold RowU; simpa using h1) h2
/-- What is used, as far as it is made. -/
def UsI (w : World) (base n : Nat) (v : Value) (G : List Nat) : Prop := RowU w base v (mkU n G) ∧ (∀ j, j < G.length → w.heap[G.getD j 0]? = some (.cells (List.replicate n (Value.bool false)).toArray 4 (0, 0)) ∧ base ≤ G.getD j 0) ∧ ∀ i j, i < j → j < G.length → G.getD i 0 < G.getD j 0
theorem UsI.push {w w1 w' : World} {base n : Nat} {v v' : Value} {G : List Nat} {g : Nat} (h : UsI w base n v G) (hb : Below w.heap.size w w1) (hg1 : w1.heap[g]? = some (.cells (List.replicate n (Value.bool false)).toArray 4 (0, 0))) (hge : w.heap.size ≤ g) (hbase : base ≤ w.heap.size) (hg : w1.grownBy w' v.ownBlock) (hr : RowU w' base v' (mkU n (G ++ [g]))) : UsI w' base n v' (G ++ [g]) := by
  obtain ⟨h1, h2, h3⟩ := h
  have hlt : ∀ j, j < G.length → G.getD j 0 < w.heap.size := fun j hj => by
    rcases Nat.lt_or_ge (G.getD j 0) w.heap.size with h | h
    · exact h
    · have := (h2 j hj).1; rw [Array.getElem?_eq_none h] at this; cases this
  have hgl : g < w1.heap.size := by
    rcases Nat.lt_or_ge g w1.heap.size with h | h
    · exact h
    · rw [Array.getElem?_eq_none h] at hg1; cases hg1
  have hown : ∀ p, w.heap[p]? = some (.cells (List.replicate n (Value.bool false)).toArray 4 (0, 0)) → some p ≠ v.ownBlock := fun p hp e => by
    rcases h1.2 with ⟨e2, _⟩ | ⟨g', cap, cur, e2, _, hh, _⟩
    · rw [e2] at e; simp [Value.ownBlock] at e
    · have hg : g' = p := by rw [e2] at e; simpa [Value.ownBlock] using e.symm
      subst hg
      rw [hh] at hp
      injection hp with hp
      injection hp with _ hp
      exact absurd hp (by decide)
  have e1 : ∀ j, j < G.length → (G ++ [g]).getD j 0 = G.getD j 0 := fun j hj => by
    rw [List.getD_eq_getElem?_getD, List.getElem?_append_left hj, ← List.getD_eq_getElem?_getD]
  have e2 : (G ++ [g]).getD G.length 0 = g := by simp [List.getD_eq_getElem?_getD]
  refine ⟨hr, fun j hj => ?_, fun i j hij hj => ?_⟩
  · rw [List.length_append, List.length_singleton] at hj
    by_cases e : j = G.length
    · subst e
      rw [e2]
      refine ⟨(hg.block g hgl (fun e3 => ?_)).trans hg1, Nat.le_trans hbase hge⟩
      have := World.ownsRow.lt h1 g e3.symm
      omega
    · rw [e1 j (by omega)]
      have h4 := h2 j (by omega)
      exact ⟨((hg.block _ (Nat.lt_of_lt_of_le (hlt j (by omega)) hb.size) (hown _ h4.1)).trans (hb.block _ (hlt j (by omega)))).trans h4.1, h4.2⟩
  · rw [List.length_append, List.length_singleton] at hj
    by_cases e : j = G.length
    · subst e
      rw [e2, e1 i hij]
      have := hlt i hij
      omega
    · rw [e1 j (by omega), e1 i (by omega)]
      exact h3 i j hij (by omega)
theorem UsI.used {w : World} {base n : Nat} {v : Value} {G : List Nat} (h : UsI w base n v G) (hG : G.length = n) (hn : 0 < n) : ∃ gU c, v = .slice (some ⟨gU, 0, none⟩) n c ∧ UsedM w gU (fun r => G.getD r 0) n (usedO (fun _ _ => -1)) := by
  obtain ⟨h1, h2, h3⟩ := h
  have hl : (mkU n G).length = n := by simp [mkU, hG]
  rcases h1.2 with ⟨_, hn0⟩ | ⟨gU, cap, cur, e, hb, hh, hc, _, _, ht⟩
  · omega
  rw [hl] at e hc ht
  refine ⟨gU, cap, e, fun r hr => ?_, fun r c hr hc => ?_, fun r hr => ⟨_, (h2 r (by omega)).1⟩, fun r s hr hs e2 => ?_⟩
  · rw [cell_of_row w gU r cur 31 (0, 0) hh]
    rw [Nat.mul_one] at ht
    rw [← Array.getElem?_toList, ← List.getElem?_take_of_lt hr, ht]
    simp [mkU, List.getD_eq_getElem?_getD, show r < G.length by omega]
  · rw [cell_of_row w _ c _ 4 (0, 0) (h2 r (by omega)).1]
    simp [hc, usedO]
  · rcases Nat.lt_trichotomy r s with h | h | h
    · have h4 := h3 r s h (by omega); have e3 : G.getD r 0 = G.getD s 0 := e2; omega
    · exact h
    · have h4 := h3 s r h (by omega); have e3 : G.getD r 0 = G.getD s 0 := e2; omega
end Go.Proofs.YtiodednhadnekaaDoor
