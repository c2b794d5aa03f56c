/- Walks: factorial; append of a whole slice of slices. -/
import Derived.Test.YtiodednhadnekaaDoorW72
namespace Go.Proofs.YtiodednhadnekaaDoor
open Go.RowKit Go.Deep
attribute [local go_sem ↓] Go.wp_at_zero Go.wp_at_succ

theorem factN_le : ∀ k, k ≤ 7 → factN k ≤ 5040 := by decide
set_option maxHeartbeats 2000000 in
/-- dibberlaw01.factorial -/
theorem f50_any (k : Nat) (w : World) (hk : k ≤ 7) : Calls Tryd.prog 50 #[.int .i64 (k : Int)] w fun e w' => e = .returned (.int .i64 (factN k : Int)) ∧ w = w' := by
  go_enter Tryd.func50, Tryd.ntmps50
  go_wp2
  go_loop [4, 3] (fun i p => ∃ j : Nat, 1 ≤ j ∧ (j ≤ k ∨ j = 1) ∧ i = .int .i64 ((j : Int) + 1) ∧ p = .int .i64 (factN j : Int)) (fun i _ => k + 1 - (intOf i).toNat)
  case atStart => exact ⟨1, by omega, .inr rfl, rfl, rfl⟩
  case round => as_aux_lemma =>
    obtain ⟨j, hj1, hjk, rfl, rfl⟩ := hrel
    by_cases h : j + 1 ≤ k
    · have e : (factN j : Int) * ((j : Int) + 1) = (factN (j + 1) : Int) := by
        show _ = (((j + 1) * factN j : Nat) : Int)
        rw [Int.natCast_mul, Int.mul_comm]; rfl
      have hl := factN_le (j + 1) (by omega)
      have a1 : ((j : Int) + 1) ≤ (k : Int) := by omega
      obtain ⟨F2, hF2⟩ : ∃ z, z = factN (j + 1) := ⟨_, rfl⟩
      rw [← hF2] at e hl
      have HF2 := Lib.hid hF2
      generalize factN j = F at *
      clear hF2
      go_wp2
      go_round
      case rel => exact ⟨j + 1, by omega, by omega, by go_num, by rw [← HF2.out]⟩
      case measure => simp [intOf]; omega
    · have a1 : ¬ ((j : Int) + 1) ≤ (k : Int) := by omega
      have e : factN k = factN j := by
        rcases hjk with h1 | h1
        · rw [show k = j by omega]
        · subst h1
          rcases (show k = 0 ∨ k = 1 by omega) with rfl | rfl <;> rfl
      have HE := Lib.hid e
      clear e
      go_wp2
      go_ret
      exact ⟨by rw [HE.out]; rfl, rfl⟩
theorem Beds.vals {w : World} {A : Option Addr} {m c : Nat} {b : List (List Int)} (h : Beds w A m c b) : ∃ us : List Value, us.length = m ∧
    (∀ j, j < m → ∃ B d, us[j]? = some (.slice B (b.getD j []).length d) ∧ (b.getD j []).length ≤ d ∧ (B = none → (b.getD j []).length = 0 ∧ d = 0) ∧ Ints w B (b.getD j []).length (b.getD j [])) ∧
    (0 < m → ∃ g o, A = some ⟨g, o, none⟩ ∧ ∀ j, j < m → w.cell? ⟨g, o + j, none⟩ = us[j]?) := by
  by_cases hm : 0 < m
  · obtain ⟨g, o, e, hc⟩ := h.2.2.2.2 hm
    have hget : ∀ j, j < m → ((List.range m).map fun j => (w.cell? ⟨g, o + j, none⟩).getD (.int .i64 0))[j]? = w.cell? ⟨g, o + j, none⟩ := fun j hj => by
      obtain ⟨B, d, h1, _⟩ := hc j hj
      rw [List.getElem?_map, List.getElem?_range hj, h1]; simp [h1]
    refine ⟨_, by simp, fun j hj => ?_, fun _ => ⟨g, o, e, fun j hj => (hget j hj).symm⟩⟩
    obtain ⟨B, d, h1, h2⟩ := hc j hj
    exact ⟨B, d, by rw [hget j hj]; exact h1, h2⟩
  · obtain rfl : m = 0 := by omega
    exact ⟨[], rfl, fun j hj => by omega, fun h => absurd h hm⟩
theorem RowV.empty (w : World) (base : Nat) (hb : base ≤ w.heap.size) : RowV (w.alloc (.cells #[] 29)) base (.slice (some ⟨w.heap.size, 0, none⟩) 0 0) [] :=
  ⟨rfl, .inr ⟨w.heap.size, 0, #[], rfl, hb, heap_alloc_new w _, Nat.le_refl _, by unfold maxLen; omega, rfl, rfl⟩⟩
theorem wpList_pushAllV {w : World} {ops : Array Oper} {rest : List Oper} {o : Oper} {a : Act} {Q : Exit → Act → World → Prop} (hgd : o.guard = none) (s x : Operand)
    (ho : o.op = .call { callee := .builtin .append, args := #[s, x], argTypes := #[22, 22] })
    (base : Nat) (v : Value) (vs : List Value) (hs : a.eval s = v) (hrow : RowV w base v vs) (A : Option Addr) (m c : Nat) (us : List Value) (hx : a.eval x = .slice A m c)
    (hn : A = none → m = 0 ∧ c = 0) (hul : us.length = m) (hsl : ∀ j, j < m → ∃ B n d, us[j]? = some (.slice B n d)) (hi : 0 < m → ∃ g o, A = some ⟨g, o, none⟩ ∧ ∀ j, j < m → w.cell? ⟨g, o + j, none⟩ = us[j]?) (hl : vs.length + m ≤ 1000000) (hb : base ≤ w.heap.size)
    (h : ∀ v' w', RowV w' base v' (vs ++ us) → w.grownBy w' v.ownBlock → wpList Tryd.prog ops Q rest (a.put o.dst v') w') : wpList Tryd.prog ops Q (o :: rest) a w := by
  obtain ⟨i0, hi0, hz0, hz1, hz2⟩ := info_parts (show (Tryd.prog.info? 29).map (fun i => (i.zero, i.size, i.bytes)) = some (some (.slice none 0 0), 1, 24) from by kernel_rfl)
  rcases A with _ | ad
  · obtain ⟨rfl, rfl⟩ := hn rfl
    have hy : us = [] := List.eq_nil_of_length_eq_zero hul
    subst hy
    refine wpList_append_own_none hgd s x 22 ho base 29 i0 1 Tryd.underlying22 hi0 v vs.length vs hs hrow hx ?_
    exact h v w (by rw [List.append_nil]; exact hrow) (World.grownBy.refl w _)
  · refine wpList_append_own w hgd s x 22 ho base 29 i0 (.slice none 0 0) 1 24 Tryd.underlying22 hi0 hz0 hz1 hz2 rfl (by decide) v vs.length vs hs hrow ad m c us hx
      (by rw [hul, Nat.mul_one]) ?_ ?_ ?_ ?_ hb ?_
    · intro j u hu
      have hj : j < m := by
        rcases Nat.lt_or_ge j m with h | h
        · exact h
        · rw [List.getElem?_eq_none (by rw [hul]; exact h)] at hu; cases hu
      obtain ⟨b, off, e, hc⟩ := hi (by omega)
      cases e
      rw [Go.WideShapes.add_plain, hc j hj, ← hu]
    · intro u hu
      obtain ⟨j, hj, he⟩ := List.getElem_of_mem hu
      obtain ⟨B, n, d, e⟩ := hsl j (by omega)
      have e2 : u = .slice B n d := by
        rw [List.getElem?_eq_getElem hj, he] at e
        exact Option.some.inj e
      clear he
      subst e2
      rfl
    · unfold maxLen; omega
    · omega
    · intro v' w' h1 h2 _
      refine h v' w' ?_ h2
      unfold RowV
      rw [List.length_append, hul]
      exact h1
end Go.Proofs.YtiodednhadnekaaDoor
