/- Words for rows of slices. -/
import Derived.Test.YtmepndnckcpgjaaGreatBase4
import Derived.Test.YtmepndnckcpgjaaGreatW13
import Derived.Deep.AppendLies
namespace Go.Proofs.YtmepndnckcpgjaaGreat
open Go.RowKit

theorem bcell {W w1 : World} (hb : Below W.heap.size W w1) : (∀ b o, b < W.heap.size → w1.cell? ⟨b, o, none⟩ = W.cell? ⟨b, o, none⟩) ∧ (∀ b o, b < W.heap.size → w1.frozen? ⟨b, o, none⟩ = W.frozen? ⟨b, o, none⟩) :=
  ⟨fun b o h => hb.cell (p := ⟨b, o, none⟩) h, fun b o h => hb.frozen (p := ⟨b, o, none⟩) h⟩
theorem grown_below {w w' : World} (h : Below w.heap.size w w') (p : Option Nat) : w.grownBy w' p := ⟨h.os, h.tape, h.output, h.size, fun i hi _ => h.block i hi⟩
def RowV (w : World) (base : Nat) (v : Value) (vs : List Value) : Prop := w.ownsRow base 23 1 v vs.length vs
section
variable {w w' : World} {base : Nat} {v : Value} {vs : List Value}
theorem RowV.nil (w : World) (base : Nat) : RowV w base (.slice none 0 0) [] := World.ownsRow_nil w base 23 1
theorem RowV.alloc (h : RowV w base v vs) (o : Obj) : RowV (w.alloc o) base v vs := World.ownsRow.alloc h o
theorem RowV.drewN (h : RowV w base v vs) (m : Nat) : RowV (w.drewN m) base v vs := h
theorem RowV.drew (h : RowV w base v vs) : RowV w.drew base v vs := h
theorem RowV.below (h : RowV w base v vs) (hb : Below w.heap.size w w') : RowV w' base v vs :=
  World.ownsRow.kept h (grown_below hb none) (by cases hv : v.ownBlock <;> simp)
theorem RowV.form (h : RowV w base v vs) : ∃ A c, v = .slice A vs.length c ∧ (0 < vs.length → ∃ g, A = some ⟨g, 0, none⟩ ∧ ∀ j, j < vs.length → w.cell? ⟨g, j, none⟩ = vs[j]?) := by
  rcases h.2 with ⟨e, hn⟩ | ⟨g, cap, cur, e, hb, hh, hc, hm, hsz, ht⟩
  · exact ⟨none, 0, by rw [e, hn], fun h => absurd hn (by omega)⟩
  · refine ⟨_, cap, e, fun hp => ⟨g, rfl, fun j hj => ?_⟩⟩
    rw [cell_of_row w g j cur 23 (0, 0) hh]
    rw [Nat.mul_one] at ht
    have h3 : (cur.toList.take vs.length)[j]? = cur.toList[j]? := List.getElem?_take_of_lt hj
    rw [ht] at h3
    rw [← Array.getElem?_toList, ← h3]
theorem wpList_pushV {ops : Array Oper} {rest : List Oper} {o : Oper} {a : Act} {Q : Exit → Act → World → Prop} (hgd : o.guard = none) (s x : Operand)
    (ho : o.op = .call { callee := .builtin .append, args := #[s, x], argTypes := #[29, 29] })
    (base : Nat) (v : Value) (vs : List Value) (hs : a.eval s = v) (hrow : RowV w base v vs) (g c : Nat) (B : Option Addr) (bn bc : Nat) (hx : a.eval x = .slice (some ⟨g, 0, none⟩) 1 c)
    (hc : w.cell? ⟨g, 0, none⟩ = some (.slice B bn bc)) (hl : vs.length ≤ 1000000) (hb : base ≤ w.heap.size)
    (h : ∀ v' w', RowV w' base v' (vs ++ [.slice B bn bc]) → w.grownBy w' v.ownBlock → (v'.ownBlock = v.ownBlock ∨ v'.ownBlock = some w.heap.size) → wpList Tryz.prog ops Q rest (a.put o.dst v') w') : wpList Tryz.prog ops Q (o :: rest) a w := by
  obtain ⟨i0, hi, hz0, hz1, hz2⟩ := info_parts (show (Tryz.prog.info? 23).map (fun i => (i.zero, i.size, i.bytes)) = some (some (.slice none 0 0), 1, 24) from by kernel_rfl)
  refine wpList_append_lies w hgd s x 29 ho base 23 i0 (.slice none 0 0) 1 24 Tryz.underlying29 hi hz0 hz1 hz2 rfl (by decide) v vs.length vs hs hrow ⟨g, 0, none⟩ 1 c [.slice B bn bc] hx rfl ?_ ?_ (by omega) ?_ ?_ hb _ rfl ?_
  · intro j u hj
    match j, hj with
    | 0, hj => simp at hj; subst hj; simpa [Addr.add] using hc
  · intro u hu; simp at hu; subst hu; rfl
  · unfold maxLen; omega
  · omega
  · intro g' cap w' h1 h2 h3 _
    refine h _ w' (by unfold RowV; simpa using h1) h2 ?_
    rcases h3 with h3 | h3
    · exact .inl h3.symm
    · exact .inr (by rw [← h3]; rfl)
theorem step_pushV {ops : Array Oper} {o : Oper} {a : Act} {K : Act → World → Prop} {Q : Exit → Act → World → Prop} {E : Prop} (hgd : o.guard = none) (s x : Operand)
    (ho : o.op = .call { callee := .builtin .append, args := #[s, x], argTypes := #[29, 29] })
    (base : Nat) (v : Value) (vs : List Value) (hs : a.eval s = v) (hrow : RowV w base v vs) (g c : Nat) (B : Option Addr) (bn bc : Nat) (hx : a.eval x = .slice (some ⟨g, 0, none⟩) 1 c)
    (hc : w.cell? ⟨g, 0, none⟩ = some (.slice B bn bc)) (hl : vs.length ≤ 1000000) (hb : base ≤ w.heap.size)
    (h : ∀ v' w', RowV w' base v' (vs ++ [.slice B bn bc]) → w.grownBy w' v.ownBlock → (v'.ownBlock = v.ownBlock ∨ v'.ownBlock = some w.heap.size) → K (a.put o.dst v') w') : if Region.wanted o (yielded ops a.tmps) = true then Oper.wp Tryz.prog o a w K Q else E := by
  have hw : Region.wanted o (yielded ops a.tmps) = true := by simp [Region.wanted, hgd]
  rw [if_pos hw]
  obtain ⟨i0, hi, hz0, hz1, hz2⟩ := info_parts (show (Tryz.prog.info? 23).map (fun i => (i.zero, i.size, i.bytes)) = some (some (.slice none 0 0), 1, 24) from by kernel_rfl)
  refine wp_append_lies w s x 29 ho base 23 i0 (.slice none 0 0) 1 24 Tryz.underlying29 hi hz0 hz1 hz2 rfl (by decide) v vs.length vs hs hrow ⟨g, 0, none⟩ 1 c [.slice B bn bc] hx rfl ?_ ?_ (by omega) ?_ ?_ hb _ rfl ?_
  · intro j u hj
    match j, hj with
    | 0, hj => simp at hj; subst hj; simpa [Addr.add] using hc
  · intro u hu; simp at hu; subst hu; rfl
  · unfold maxLen; omega
  · omega
  · intro g' cap w' h1 h2 h3 _
    refine h _ w' (by unfold RowV; simpa using h1) h2 ?_
    rcases h3 with h3 | h3
    · exact .inl h3.symm
    · exact .inr (by rw [← h3]; rfl)
/-- Two rows that do not lie in one block. -/
def Apart (v u : Value) : Prop := ∀ b, v.ownBlock = some b → u.ownBlock ≠ some b
theorem Apart.symm {v u : Value} (h : Apart v u) : Apart u v := fun b h1 h2 => h b h2 h1
theorem Apart.nil (u : Value) : Apart (.slice none 0 0) u := fun b h => by simp [Value.ownBlock] at h
theorem Apart.push {u v' : Value} {us : List Value} (h : Apart v u) (hu : RowV w base u us) (hv : v'.ownBlock = v.ownBlock ∨ v'.ownBlock = some w.heap.size) : Apart v' u := fun b hb => by
  rcases hv with hv | hv
  · exact h b (by rw [← hv]; exact hb)
  · intro e
    have := (World.ownsRow.lt hu b e).2
    rw [hv] at hb
    injection hb with hb
    omega
theorem RowV.other {u : Value} {us : List Value} (hu : RowV w base u us) (hg : w.grownBy w' v.ownBlock) (h : Apart v u) : RowV w' base u us :=
  World.ownsRow.kept hu hg (by
    cases hb : u.ownBlock with
    | none => exact .inl rfl
    | some b => refine .inr ?_; intro e; exact h b e.symm hb)
end
theorem below_grownV {B : Nat} {a w w' : World} {v : Value} (h : Below B a w) (hg : w.grownBy w' v.ownBlock) (hb : B ≤ w.heap.size) {base : Nat} {vs : List Value} (hr : RowV w base v vs) (hB : B ≤ base) : Below B a w' :=
  h.grown hg hb fun k hk => Nat.le_trans hB (World.ownsRow.lt hr k hk).1
def Beds (w : World) (A : Option Addr) (n c : Nat) (b : List (List Int)) : Prop :=
  b.length = n ∧ n ≤ 1000000 ∧ n ≤ c ∧ (A = none → n = 0 ∧ c = 0) ∧ (0 < n → ∃ g o, A = some ⟨g, o, none⟩ ∧ ∀ j, j < n → ∃ B d, w.cell? ⟨g, o + j, none⟩ = some (.slice B (b.getD j []).length d) ∧ (b.getD j []).length ≤ d ∧ (B = none → (b.getD j []).length = 0 ∧ d = 0) ∧ Ints w B (b.getD j []).length (b.getD j []))
section
variable {w w' : World} {A : Option Addr} {n c : Nat} {b : List (List Int)}
theorem Beds.below (h : Beds w A n c b) (hb : Below w.heap.size w w') : Beds w' A n c b :=
  ⟨h.1, h.2.1, h.2.2.1, h.2.2.2.1, fun hn => by
    obtain ⟨g, o, e, hc⟩ := h.2.2.2.2 hn
    exact ⟨g, o, e, fun j hj => by
      obtain ⟨B, d, h1, h2, h3, h4⟩ := hc j hj
      exact ⟨B, d, (hb.cell (lt_of_cell h1)).trans h1, h2, h3, h4.below hb⟩⟩⟩
theorem Beds.drewN (h : Beds w A n c b) (m : Nat) : Beds (w.drewN m) A n c b := h
theorem Beds.len (h : Beds w A n c b) : b.length = n := h.1
theorem Beds.small (h : Beds w A n c b) : n ≤ 1000000 := h.2.1
theorem Beds.cap (h : Beds w A n c b) : n ≤ c := h.2.2.1
theorem Beds.at_ (h : Beds w A n c b) {k : Nat} (hk : k < n) : ∃ g o, A = some ⟨g, o, none⟩ ∧ ∃ B d, w.cell? ⟨g, o + k, none⟩ = some (.slice B (b.getD k []).length d) ∧ (b.getD k []).length ≤ d ∧ (B = none → (b.getD k []).length = 0 ∧ d = 0) ∧ Ints w B (b.getD k []).length (b.getD k []) := by
  obtain ⟨g, o, e, hc⟩ := h.2.2.2.2 (by omega)
  exact ⟨g, o, e, hc k hk⟩
theorem Beds.nil (w : World) : Beds w none 0 0 [] := ⟨rfl, by omega, by omega, fun _ => ⟨rfl, rfl⟩, fun h => absurd h (by omega)⟩
end
theorem RowV.beds {w : World} {base : Nat} {v : Value} {vs : List Value} {b : List (List Int)} (h : RowV w base v vs) (hl : vs.length = b.length) (hs : b.length ≤ 1000000)
    (hr : ∀ j, j < b.length → ∃ B d, vs[j]? = some (.slice B (b.getD j []).length d) ∧ (b.getD j []).length ≤ d ∧ (B = none → (b.getD j []).length = 0 ∧ d = 0) ∧ Ints w B (b.getD j []).length (b.getD j [])) : ∃ A c, v = .slice A b.length c ∧ Beds w A b.length c b := by
  have hcap : ∃ A c, v = .slice A vs.length c ∧ vs.length ≤ c ∧ (A = none → vs.length = 0 ∧ c = 0) := by
    rcases h.2 with ⟨e2, hn⟩ | ⟨g, cap, cur, e2, hb, hh, hc, _⟩
    · exact ⟨none, 0, by rw [e2, hn], by omega, fun _ => ⟨hn, rfl⟩⟩
    · exact ⟨_, cap, e2, hc, fun h => by cases h⟩
  obtain ⟨A, c, e, hle, hnone⟩ := hcap
  obtain ⟨A', c', e', hc⟩ := h.form
  rw [e] at e'
  injection e' with e1 e2 e3
  subst e1 e3
  rw [hl] at e hc hle hnone
  refine ⟨A, c, e, rfl, hs, hle, hnone, fun hp => ?_⟩
  obtain ⟨g, hA, hcell⟩ := hc hp
  refine ⟨g, 0, hA, fun j hj => ?_⟩
  obtain ⟨B, d, h1, h2⟩ := hr j hj
  exact ⟨B, d, by rw [Nat.zero_add, hcell j hj]; exact h1, h2⟩
theorem Beds.vals {w : World} {A : Option Addr} {m c : Nat} {b : List (List Int)} (h : Beds w A m c b) : ∃ us : List Value, us.length = m ∧
    (∀ j, j < m → ∃ B d, us[j]? = some (.slice B (b.getD j []).length d) ∧ (b.getD j []).length ≤ d ∧ (B = none → (b.getD j []).length = 0 ∧ d = 0) ∧ Ints w B (b.getD j []).length (b.getD j [])) ∧
    (0 < m → ∃ g o, A = some ⟨g, o, none⟩ ∧ ∀ j, j < m → w.cell? ⟨g, o + j, none⟩ = us[j]?) := by
  by_cases hm : 0 < m
  · obtain ⟨g, o, e, hc⟩ := h.2.2.2.2 hm
    have hget : ∀ j, j < m → ((List.range m).map fun j => (w.cell? ⟨g, o + j, none⟩).getD (.int .i64 0))[j]? = w.cell? ⟨g, o + j, none⟩ := fun j hj => by
      obtain ⟨B, d, h1, _⟩ := hc j hj
      rw [List.getElem?_map, List.getElem?_range hj, h1]; simp [h1]
    refine ⟨_, by simp, fun j hj => ?_, fun _ => ⟨g, o, e, fun j hj => (hget j hj).symm⟩⟩
    obtain ⟨B, d, h1, h2⟩ := hc j hj
    exact ⟨B, d, by rw [hget j hj]; exact h1, h2⟩
  · obtain rfl : m = 0 := by omega
    exact ⟨[], rfl, fun j hj => by omega, fun h => absurd h hm⟩
theorem RowV.empty (w : World) (base : Nat) (hb : base ≤ w.heap.size) : RowV (w.alloc (.cells #[] 23)) base (.slice (some ⟨w.heap.size, 0, none⟩) 0 0) [] :=
  ⟨rfl, .inr ⟨w.heap.size, 0, #[], rfl, hb, heap_alloc_new w _, Nat.le_refl _, by unfold maxLen; omega, rfl, rfl⟩⟩
theorem wpList_pushAllV {w : World} {ops : Array Oper} {rest : List Oper} {o : Oper} {a : Act} {Q : Exit → Act → World → Prop} (hgd : o.guard = none) (s x : Operand)
    (ho : o.op = .call { callee := .builtin .append, args := #[s, x], argTypes := #[29, 29] })
    (base : Nat) (v : Value) (vs : List Value) (hs : a.eval s = v) (hrow : RowV w base v vs) (A : Option Addr) (m c : Nat) (us : List Value) (hx : a.eval x = .slice A m c)
    (hn : A = none → m = 0 ∧ c = 0) (hul : us.length = m) (hsl : ∀ j, j < m → ∃ B n d, us[j]? = some (.slice B n d)) (hi : 0 < m → ∃ g o, A = some ⟨g, o, none⟩ ∧ ∀ j, j < m → w.cell? ⟨g, o + j, none⟩ = us[j]?) (hl : vs.length + m ≤ 1000000) (hb : base ≤ w.heap.size)
    (h : ∀ v' w', RowV w' base v' (vs ++ us) → w.grownBy w' v.ownBlock → wpList Tryz.prog ops Q rest (a.put o.dst v') w') : wpList Tryz.prog ops Q (o :: rest) a w := by
  obtain ⟨i0, hi0, hz0, hz1, hz2⟩ := info_parts (show (Tryz.prog.info? 23).map (fun i => (i.zero, i.size, i.bytes)) = some (some (.slice none 0 0), 1, 24) from by kernel_rfl)
  rcases A with _ | ad
  · obtain ⟨rfl, rfl⟩ := hn rfl
    have hy : us = [] := List.eq_nil_of_length_eq_zero hul
    subst hy
    refine wpList_append_own_none hgd s x 29 ho base 23 i0 1 Tryz.underlying29 hi0 v vs.length vs hs hrow hx ?_
    exact h v w (by rw [List.append_nil]; exact hrow) (World.grownBy.refl w _)
  · refine wpList_append_own w hgd s x 29 ho base 23 i0 (.slice none 0 0) 1 24 Tryz.underlying29 hi0 hz0 hz1 hz2 rfl (by decide) v vs.length vs hs hrow ad m c us hx
      (by rw [hul, Nat.mul_one]) ?_ ?_ ?_ ?_ hb ?_
    · intro j u hu
      have hj : j < m := by
        rcases Nat.lt_or_ge j m with h | h
        · exact h
        · rw [List.getElem?_eq_none (by rw [hul]; exact h)] at hu; cases hu
      obtain ⟨b, off, e, hc⟩ := hi (by omega)
      cases e
      rw [Go.WideShapes.add_plain, hc j hj, ← hu]
    · intro u hu
      obtain ⟨j, hj, he⟩ := List.getElem_of_mem hu
      obtain ⟨B, n, d, e⟩ := hsl j (by omega)
      have e2 : u = .slice B n d := by
        rw [List.getElem?_eq_getElem hj, he] at e
        exact Option.some.inj e
      clear he
      subst e2
      rfl
    · unfold maxLen; omega
    · omega
    · intro v' w' h1 h2 _
      refine h v' w' ?_ h2
      unfold RowV
      rw [List.length_append, hul]
      exact h1
end Go.Proofs.YtmepndnckcpgjaaGreat
