/- A row that grows by a whole slice of ints. No condition. -/
import Derived.Test.YtmepndnckcpgjaaGreatBase3
import Derived.Laws.AppendOwnNone
namespace Go.Proofs.YtmepndnckcpgjaaGreat
open Go.RowKit

theorem Row.empty (w : World) (base : Nat) (hb : base ≤ w.heap.size) : Row (w.alloc (.cells #[] 3)) base (.slice (some ⟨w.heap.size, 0, none⟩) 0 0) [] :=
  ⟨rfl, .inr ⟨w.heap.size, 0, #[], rfl, hb, heap_alloc_new w _, Nat.le_refl _, by unfold maxLen; omega, rfl, rfl⟩⟩
theorem wpList_pushAll {w : World} {ops : Array Oper} {rest : List Oper} {o : Oper} {a : Act} {Q : Exit → Act → World → Prop} (hgd : o.guard = none) (s x : Operand)
    (ho : o.op = .call { callee := .builtin .append, args := #[s, x], argTypes := #[23, 23] })
    (base : Nat) (v : Value) (xs : List Int) (hs : a.eval s = v) (hrow : Row w base v xs) (A : Option Addr) (m c : Nat) (ys : List Int) (hx : a.eval x = .slice A m c)
    (hn : A = none → m = 0 ∧ c = 0) (hi : Ints w A m ys) (hl : xs.length + m ≤ 1000000) (hb : base ≤ w.heap.size)
    (h : ∀ v' w', Row w' base v' (xs ++ ys) → w.grownBy w' v.ownBlock → wpList Tryz.prog ops Q rest (a.put o.dst v') w') : wpList Tryz.prog ops Q (o :: rest) a w := by
  obtain ⟨i0, hi0, hz0, hz1, hz2⟩ := info_parts (show (Tryz.prog.info? 3).map (fun i => (i.zero, i.size, i.bytes)) = some (some (.int .i64 0), 1, 8) from by kernel_rfl)
  rcases A with _ | ad
  · obtain ⟨rfl, rfl⟩ := hn rfl
    have hy : ys = [] := List.eq_nil_of_length_eq_zero hi.len
    subst hy
    refine wpList_append_own_none hgd s x 23 ho base 3 i0 1 Tryz.underlying23 hi0 v xs.length (xs.map (Value.int .i64)) hs hrow hx ?_
    exact h v w (by rw [List.append_nil]; exact hrow) (World.grownBy.refl w _)
  · refine wpList_append_own w hgd s x 23 ho base 3 i0 (.int .i64 0) 1 8 Tryz.underlying23 hi0 hz0 hz1 hz2 rfl (by decide) v xs.length (xs.map (Value.int .i64)) hs hrow ad m c (ys.map (Value.int .i64)) hx
      (by rw [List.length_map, hi.len, Nat.mul_one]) ?_ ?_ ?_ ?_ hb ?_
    · intro j u hu
      have hj : j < m := by
        rcases Nat.lt_or_ge j m with h | h
        · exact h
        · rw [List.getElem?_eq_none (by rw [List.length_map, hi.len]; exact h)] at hu; cases hu
      obtain ⟨b, off, e, hc⟩ := hi.ad (by omega)
      cases e
      have hjl : j < ys.length := by rw [hi.len]; exact hj
      rw [Go.WideShapes.add_plain, hc j hj, ← hu]
      simp [hjl]
    · intro u hu
      rw [List.mem_map] at hu
      obtain ⟨y, _, rfl⟩ := hu
      rfl
    · unfold maxLen; omega
    · omega
    · intro v' w' h1 h2 _
      have hxl : xs.length + m = (xs ++ ys).length := by rw [List.length_append, hi.len]
      refine h v' w' ?_ h2
      unfold Row
      rw [List.map_append, ← hxl]
      exact h1
end Go.Proofs.YtmepndnckcpgjaaGreat
