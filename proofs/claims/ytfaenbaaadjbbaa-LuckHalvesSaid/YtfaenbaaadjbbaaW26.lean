/- Rows of slices that grow; the walk of less. -/
import Derived.Test.YtfaenbaaadjbbaaW25
import Derived.Deep.RegionHeld3
import Derived.Deep.AppendLies
namespace Go.Proofs.Ytfaenbaaadjbbaa
open Go.RowKit

/-- The slice value v owns a row of the call's own whose elements are the slices vs. -/
def RowV (w : World) (base : Nat) (v : Value) (vs : List Value) : Prop := w.ownsRow base 31 1 v vs.length vs
section
variable {w w' : World} {base : Nat} {v : Value} {vs : List Value}
theorem RowV.nil (w : World) (base : Nat) : RowV w base (.slice none 0 0) [] := World.ownsRow_nil w base 31 1
theorem RowV.alloc (h : RowV w base v vs) (o : Obj) : RowV (w.alloc o) base v vs := World.ownsRow.alloc h o
theorem RowV.drewN (h : RowV w base v vs) (m : Nat) : RowV (w.drewN m) base v vs := h
theorem RowV.drew (h : RowV w base v vs) : RowV w.drew base v vs := h
theorem RowV.below (h : RowV w base v vs) (hb : Below w.heap.size w w') : RowV w' base v vs :=
  World.ownsRow.kept h (grown_below hb none) (by cases hv : v.ownBlock <;> simp)
theorem RowV.form (h : RowV w base v vs) : ∃ A c, v = .slice A vs.length c ∧ (0 < vs.length → ∃ g, A = some ⟨g, 0, none⟩ ∧ ∀ j, j < vs.length → w.cell? ⟨g, j, none⟩ = vs[j]?) := by
  rcases h.2 with ⟨e, hn⟩ | ⟨g, cap, cur, e, hb, hh, hc, hm, hsz, ht⟩
  · exact ⟨none, 0, by rw [e, hn], fun h => absurd hn (by omega)⟩
  · refine ⟨_, cap, e, fun hp => ⟨g, rfl, fun j hj => ?_⟩⟩
    rw [cell_of_row w g j cur 31 (0, 0) hh]
    rw [Nat.mul_one] at ht
    have h3 : (cur.toList.take vs.length)[j]? = cur.toList[j]? := List.getElem?_take_of_lt hj
    rw [ht] at h3
    rw [← Array.getElem?_toList, ← h3]
theorem wpList_pushV {ops : Array Oper} {rest : List Oper} {o : Oper} {a : Act} {Q : Exit → Act → World → Prop} (hgd : o.guard = none) (s x : Operand)
    (ho : o.op = .call { callee := .builtin .append, args := #[s, x], argTypes := #[22, 22] })
    (base : Nat) (v : Value) (vs : List Value) (hs : a.eval s = v) (hrow : RowV w base v vs) (g c : Nat) (B : Option Addr) (bn bc : Nat) (hx : a.eval x = .slice (some ⟨g, 0, none⟩) 1 c)
    (hc : w.cell? ⟨g, 0, none⟩ = some (.slice B bn bc)) (hl : vs.length ≤ 1000000) (hb : base ≤ w.heap.size)
    (h : ∀ v' w', RowV w' base v' (vs ++ [.slice B bn bc]) → w.grownBy w' v.ownBlock → (v'.ownBlock = v.ownBlock ∨ v'.ownBlock = some w.heap.size) → wpList Try.prog ops Q rest (a.put o.dst v') w') : wpList Try.prog ops Q (o :: rest) a w := by
  obtain ⟨i0, hi, hz0, hz1, hz2⟩ := info_parts (show (Try.prog.info? 31).map (fun i => (i.zero, i.size, i.bytes)) = some (some (.slice none 0 0), 1, 24) from by kernel_rfl)
  refine wpList_append_lies w hgd s x 22 ho base 31 i0 (.slice none 0 0) 1 24 Try.underlying22 hi hz0 hz1 hz2 rfl (by decide) v vs.length vs hs hrow ⟨g, 0, none⟩ 1 c [.slice B bn bc] hx rfl ?_ ?_ (by omega) ?_ ?_ hb _ rfl ?_
  · intro j u hj
    match j, hj with
    | 0, hj => simp at hj; subst hj; simpa [Addr.add] using hc
  · intro u hu; simp at hu; subst hu; rfl
  · unfold maxLen; omega
  · omega
  · intro g' cap w' h1 h2 h3 _
    refine h _ w' (by unfold RowV; simpa using h1) h2 ?_
    rcases h3 with h3 | h3
    · exact .inl h3.symm
    · exact .inr (by rw [← h3]; rfl)
theorem step_pushV {ops : Array Oper} {o : Oper} {a : Act} {K : Act → World → Prop} {Q : Exit → Act → World → Prop} {E : Prop} (hgd : o.guard = none) (s x : Operand)
    (ho : o.op = .call { callee := .builtin .append, args := #[s, x], argTypes := #[22, 22] })
    (base : Nat) (v : Value) (vs : List Value) (hs : a.eval s = v) (hrow : RowV w base v vs) (g c : Nat) (B : Option Addr) (bn bc : Nat) (hx : a.eval x = .slice (some ⟨g, 0, none⟩) 1 c)
    (hc : w.cell? ⟨g, 0, none⟩ = some (.slice B bn bc)) (hl : vs.length ≤ 1000000) (hb : base ≤ w.heap.size)
    (h : ∀ v' w', RowV w' base v' (vs ++ [.slice B bn bc]) → w.grownBy w' v.ownBlock → (v'.ownBlock = v.ownBlock ∨ v'.ownBlock = some w.heap.size) → K (a.put o.dst v') w') : if Region.wanted o (yielded ops a.tmps) = true then Oper.wp Try.prog o a w K Q else E := by
  have hw : Region.wanted o (yielded ops a.tmps) = true := by simp [Region.wanted, hgd]
  rw [if_pos hw]
  obtain ⟨i0, hi, hz0, hz1, hz2⟩ := info_parts (show (Try.prog.info? 31).map (fun i => (i.zero, i.size, i.bytes)) = some (some (.slice none 0 0), 1, 24) from by kernel_rfl)
  refine wp_append_lies w s x 22 ho base 31 i0 (.slice none 0 0) 1 24 Try.underlying22 hi hz0 hz1 hz2 rfl (by decide) v vs.length vs hs hrow ⟨g, 0, none⟩ 1 c [.slice B bn bc] hx rfl ?_ ?_ (by omega) ?_ ?_ hb _ rfl ?_
  · intro j u hj
    match j, hj with
    | 0, hj => simp at hj; subst hj; simpa [Addr.add] using hc
  · intro u hu; simp at hu; subst hu; rfl
  · unfold maxLen; omega
  · omega
  · intro g' cap w' h1 h2 h3 _
    refine h _ w' (by unfold RowV; simpa using h1) h2 ?_
    rcases h3 with h3 | h3
    · exact .inl h3.symm
    · exact .inr (by rw [← h3]; rfl)
/-- Two rows that do not lie in one block. -/
def Apart (v u : Value) : Prop := ∀ b, v.ownBlock = some b → u.ownBlock ≠ some b
theorem Apart.symm {v u : Value} (h : Apart v u) : Apart u v := fun b h1 h2 => h b h2 h1
theorem Apart.nil (u : Value) : Apart (.slice none 0 0) u := fun b h => by simp [Value.ownBlock] at h
theorem Apart.push {u v' : Value} {us : List Value} (h : Apart v u) (hu : RowV w base u us) (hv : v'.ownBlock = v.ownBlock ∨ v'.ownBlock = some w.heap.size) : Apart v' u := fun b hb => by
  rcases hv with hv | hv
  · exact h b (by rw [← hv]; exact hb)
  · intro e
    have := (World.ownsRow.lt hu b e).2
    rw [hv] at hb
    injection hb with hb
    omega
theorem RowV.other {u : Value} {us : List Value} (hu : RowV w base u us) (hg : w.grownBy w' v.ownBlock) (h : Apart v u) : RowV w' base u us :=
  World.ownsRow.kept hu hg (by
    cases hb : u.ownBlock with
    | none => exact .inl rfl
    | some b => refine .inr ?_; intro e; exact h b e.symm hb)
/-- A block of ints is none of slices. -/
theorem Own.apart {g : Nat} {xs : List Int} (h : Own w g xs) (hr : RowV w base v vs) : some g ≠ v.ownBlock := by
  rcases hr.2 with ⟨e, hn⟩ | ⟨g', cap, cur, e, hb, hh, _⟩
  · rw [e]; simp [Value.ownBlock]
  · intro he
    have hg : g' = g := by rw [e] at he; simpa [Value.ownBlock] using he.symm
    subst hg
    unfold Own at h
    rw [hh] at h
    injection h with h
    injection h with _ h
    exact absurd h (by decide)
theorem Own.grown {g : Nat} {xs : List Int} (h : Own w g xs) (hr : RowV w base v vs) (hg : w.grownBy w' v.ownBlock) : Own w' g xs := (hg.block g h.lt (h.apart hr)).trans h
end
theorem below_grownV {B : Nat} {a w w' : World} {v : Value} (h : Below B a w) (hg : w.grownBy w' v.ownBlock) (hb : B ≤ w.heap.size) {base : Nat} {vs : List Value} (hr : RowV w base v vs) (hB : B ≤ base) : Below B a w' :=
  h.grown hg hb fun k hk => Nat.le_trans hB (World.ownsRow.lt hr k hk).1
/-- A row of slices that reads as a list of lists. -/
theorem RowV.ints {w : World} {base : Nat} {v : Value} {vs : List Value} {xss : List (List Int)} (h : RowV w base v vs) (hl : vs.length = xss.length) (hs : xss.length ≤ 1000000)
    (hr : ∀ j, j < xss.length → ∃ B c, vs[j]? = some (.slice B (xss.getD j []).length c) ∧ Ints w B (xss.getD j []).length (xss.getD j [])) : ∃ A c, v = .slice A xss.length c ∧ IntsS w A xss.length xss := by
  obtain ⟨A, c, e, hc⟩ := h.form
  rw [hl] at e hc
  refine ⟨A, c, e, rfl, by omega, fun hp => ?_⟩
  obtain ⟨g, hA, hcell⟩ := hc hp
  refine ⟨g, 0, hA, fun j hj => ?_⟩
  obtain ⟨B, d, h1, h2⟩ := hr j hj
  exact ⟨B, d, by rw [Nat.zero_add, hcell j hj]; exact h1, h2⟩
set_option maxHeartbeats 1000000 in
/-- dibberlaw05.less -/
theorem f20_any (a b c d : Nat) (w : World) (hb : a ≤ 1000000 ∧ b ≤ 1000000 ∧ c ≤ 1000000 ∧ d ≤ 1000000) :
    Calls Try.prog 20 #[.agg #[.int .i64 (a : Int), .int .i64 (b : Int)], .agg #[.int .i64 (c : Int), .int .i64 (d : Int)]] w fun e w' => e = .returned (.bool (decide (a * d < c * b))) ∧ Below w.heap.size w w' := by
  have h1 : a * d ≤ 1000000 * 1000000 := Nat.mul_le_mul hb.1 hb.2.2.2
  have h2 : c * b ≤ 1000000 * 1000000 := Nat.mul_le_mul hb.2.2.1 hb.2.1
  have e1 : (a : Int) * (d : Int) = ((a * d : Nat) : Int) := by simp
  have e2 : (c : Int) * (b : Int) = ((c * b : Nat) : Int) := by simp
  generalize a * d = x at *
  generalize c * b = y at *
  have h3 := Lib.hid (below_alloc2 w (.cells #[.int .i64 (a : Int), .int .i64 (b : Int)] 26) (.cells #[.int .i64 (c : Int), .int .i64 (d : Int)] 26))
  go_enter Try.func20, Try.ntmps20
  go_wp2
  go_ret
  exact ⟨ret_bool (by by_cases h : x < y <;> simp [h] <;> omega), h3.out⟩
end Go.Proofs.Ytfaenbaaadjbbaa
