/- Walks: the transversals by their first column. -/
import Derived.Test.YtiodednhadnekaaDoorW21
namespace Go.Proofs.YtiodednhadnekaaDoor
open Go.RowKit Go.Deep
attribute [local go_sem ↓] Go.wp_at_zero Go.wp_at_succ

/-- What an append to a row of slices leaves, and where the row lies. -/
theorem step_pushW {w : World} {ops : Array Oper} {o : Oper} {a : Act} {K : Act → World → Prop} {Q : Exit → Act → World → Prop} {E : Prop} (hgd : o.guard = none) (s x : Operand)
    (ho : o.op = .call { callee := .builtin .append, args := #[s, x], argTypes := #[22, 22] })
    (base : Nat) (v : Value) (vs : List Value) (hs : a.eval s = v) (hrow : RowV w base v vs) (g c : Nat) (B : Option Addr) (bn bc : Nat) (hx : a.eval x = .slice (some ⟨g, 0, none⟩) 1 c)
    (hc : w.cell? ⟨g, 0, none⟩ = some (.slice B bn bc)) (hl : vs.length ≤ 1000000) (hb : base ≤ w.heap.size)
    (h : ∀ b' c' w', RowV w' base (.slice (some ⟨b', 0, none⟩) (vs.length + 1) c') (vs ++ [.slice B bn bc]) → w.grownBy w' v.ownBlock → (v.ownBlock = some b' ∨ b' = w.heap.size) → K (a.put o.dst (.slice (some ⟨b', 0, none⟩) (vs.length + 1) c')) w') : if Region.wanted o (yielded ops a.tmps) = true then Oper.wp Tryd.prog o a w K Q else E := by
  have hw : Region.wanted o (yielded ops a.tmps) = true := by simp [Region.wanted, hgd]
  rw [if_pos hw]
  obtain ⟨i0, hi, hz0, hz1, hz2⟩ := info_parts (show (Tryd.prog.info? 29).map (fun i => (i.zero, i.size, i.bytes)) = some (some (.slice none 0 0), 1, 24) from by kernel_rfl)
  refine wp_append_lies w s x 22 ho base 29 i0 (.slice none 0 0) 1 24 Tryd.underlying22 hi hz0 hz1 hz2 rfl (by decide) v vs.length vs hs hrow ⟨g, 0, none⟩ 1 c [.slice B bn bc] hx rfl ?_ ?_ (by omega) ?_ ?_ hb _ rfl ?_
  · intro j u hj
    match j, hj with
    | 0, hj => simp at hj; subst hj; simpa [Addr.add] using hc
  · intro u hu; simp at hu; subst hu; rfl
  · unfold maxLen; omega
  · omega
  · intro g' cap w' h1 h2 h3 _
    exact h _ _ w' (by unfold RowV; simpa using h1) h2 h3
/-- A block of slices of slices that is known whole. -/
def OwnW (w : World) (g : Nat) (us : List Value) : Prop := w.heap[g]? = some (.cells us.toArray 22 (0, 0)) ∧ ∀ v ∈ us, ∃ B n d, v = .slice B n d
section
variable {w w' : World} {g : Nat} {us : List Value}
theorem OwnW.lt (h : OwnW w g us) : g < w.heap.size := by
  rcases Nat.lt_or_ge g w.heap.size with hlt | hge
  · exact hlt
  · have := h.1; rw [Array.getElem?_eq_none hge] at this; cases this
theorem OwnW.cell (h : OwnW w g us) (j : Nat) : w.cell? ⟨g, j, none⟩ = us[j]? := by
  rw [cell_of_row w g j _ 22 (0, 0) h.1]; simp
theorem OwnW.frozen (h : OwnW w g us) (j : Nat) : w.frozen? ⟨g, j, none⟩ = false := by
  have := h.1
  simp [World.frozen?, this]
theorem OwnW.below (h : OwnW w g us) (hb : Below w.heap.size w w') : OwnW w' g us := ⟨(hb.block g h.lt).trans h.1, h.2⟩
theorem OwnW.set_ (h : OwnW w g us) (j : Nat) {v : Value} (hv : ∃ B n d, v = .slice B n d) : OwnW (w.setCell ⟨g, j, none⟩ v) g (us.set j v) := by
  refine ⟨?_, fun u hu => ?_⟩
  · have := h.1
    simp [World.setCell, Array.getElem?_modify, this]
  · rcases List.mem_or_eq_of_mem_set hu with h1 | h1
    · exact h.2 u h1
    · rw [h1]; exact hv
theorem OwnW.made (w : World) (n : Nat) : OwnW (w.alloc (.cells (List.replicate n (Value.slice none 0 0)).toArray 22)) w.heap.size (List.replicate n (Value.slice none 0 0)) :=
  ⟨heap_alloc_new w _, fun v hv => by rw [List.mem_replicate] at hv; exact ⟨none, 0, 0, hv.2⟩⟩
theorem OwnW.intNe (h : OwnW w g us) {b i : Nat} {x : Int} (hc : w.cell? ⟨b, i, none⟩ = some (.int .i64 x)) : g ≠ b := by
  rintro rfl
  rw [h.cell] at hc
  obtain ⟨B, n, d, e⟩ := h.2 _ (List.mem_of_getElem? hc)
  cases e
/-- A row of slices lies in no block of slices of slices. -/
theorem OwnW.rowNe (h : OwnW w g us) {base : Nat} {v : Value} {vs : List Value} (hr : RowV w base v vs) : v.ownBlock ≠ some g := by
  rcases hr.2 with ⟨e, hn⟩ | ⟨g', cap, cur, e, hb, hh, _⟩
  · rw [e]; simp [Value.ownBlock]
  · rw [e]
    intro he
    have hg : g' = g := by simp [Value.ownBlock] at he; omega
    subst hg
    have := h.1
    rw [hh] at this
    injection this with this
    injection this with _ this
    exact absurd this (by decide)
end
/-- The blocks of the sets. -/
def SOwn (gS : Nat) (w : World) (i : Nat) : Prop := i = gS ∨ ∃ (j : Nat) (u : Value), w.cell? ⟨gS, j, none⟩ = some u ∧ u.ownBlock = some i
def byCol (done : List (List Nat)) (j : Nat) : List (List Nat) := done.filter fun l => l.getD 0 0 == j
theorem byCol_app (done : List (List Nat)) (l : List Nat) (j : Nat) : byCol (done ++ [l]) j = if l.getD 0 0 = j then byCol done j ++ [l] else byCol done j := by
  unfold byCol
  rw [List.filter_append]
  by_cases e : l.getD 0 0 = j
  · have e2 : (l.getD 0 0 == j) = true := beq_iff_eq.2 e
    rw [if_pos e, List.filter_cons, if_pos e2, List.filter_nil]
  · have e2 : ¬ (l.getD 0 0 == j) = true := fun h => e (beq_iff_eq.1 h)
    rw [if_neg e, List.filter_cons, if_neg e2, List.filter_nil, List.append_nil]
/-- A row of the sets: the slices vs read as the lists L. -/
def SRow (gS base : Nat) (w : World) (u : Value) (L : List (List Nat)) : Prop := ∃ vs, RowV w base u vs ∧ vs.length = L.length ∧ ∀ (i : Nat) (v : Value), vs[i]? = some v → ∃ A c, v = .slice A (L.getD i []).length c ∧ IntsN (SOwn gS) w A (L.getD i [])
/-- The transversals that were visited lie in the sets. -/
def SetsI (n base pS gS : Nat) (done : List (List Nat)) (w : World) : Prop :=
  ∃ us, OwnW w gS us ∧ us.length = n ∧ base ≤ gS ∧ w.cell? ⟨pS, 0, none⟩ = some (.slice (some ⟨gS, 0, none⟩) n n) ∧ ¬ SOwn gS w pS ∧ (∀ l ∈ done, l.length = n) ∧ (∀ (j : Nat) (u : Value), us[j]? = some u → SRow gS base w u (byCol done j)) ∧ ∀ (i j : Nat) (u v : Value), i ≠ j → us[i]? = some u → us[j]? = some v → Apart u v
theorem SOwn.below {gS : Nat} {w w' : World} (hg : gS < w.heap.size) (hb : Below w.heap.size w w') {i : Nat} (h : SOwn gS w' i) : SOwn gS w i := by
  rcases h with h | ⟨j, u, h1, h2⟩
  · exact .inl h
  · exact .inr ⟨j, u, by rw [← h1]; exact (hb.cell (p := ⟨gS, j, none⟩) hg).symm, h2⟩
theorem SetsI.lt {n base pS gS : Nat} {done : List (List Nat)} {w : World} (h : SetsI n base pS gS done w) {i : Nat} (hi : SOwn gS w i) : base ≤ i ∧ i < w.heap.size := by
  obtain ⟨us, h1, h2, h3, h4, h5, h6, h7, h8⟩ := h
  rcases hi with rfl | ⟨j, u, hu, hb⟩
  · exact ⟨h3, h1.lt⟩
  · rw [h1.cell] at hu
    obtain ⟨vs, hr, _⟩ := h7 j u hu
    exact World.ownsRow.lt hr i hb
theorem byCol_mem {done : List (List Nat)} {j i : Nat} (hi : i < (byCol done j).length) : (byCol done j).getD i [] ∈ done := by
  rw [List.getD_eq_getElem?_getD, List.getElem?_eq_getElem hi, Option.getD_some]
  exact (List.mem_filter.1 (List.getElem_mem hi)).1
theorem SRow.kept {gS base n : Nat} {w w' : World} {u : Value} {L : List (List Nat)} (h : SRow gS base w u L) (hn : 0 < n) (hl : ∀ i, i < L.length → (L.getD i []).length = n) (hr : ∀ vs, RowV w base u vs → RowV w' base u vs) (k : Kept (SOwn gS) w w') : SRow gS base w' u L := by
  obtain ⟨vs, h1, h2, h3⟩ := h
  refine ⟨vs, hr vs h1, h2, fun i v hv => ?_⟩
  obtain ⟨A, c, e, hi⟩ := h3 i v hv
  have hiv : i < vs.length := by
    rcases Nat.lt_or_ge i vs.length with h | h
    · exact h
    · rw [List.getElem?_eq_none h] at hv; cases hv
  exact ⟨A, c, e, hi.kept k (by rw [hl i (by omega)]; exact hn)⟩
theorem SetsI.keep {n base pS gS : Nat} {done : List (List Nat)} {w w' : World} (hn : 0 < n) (h : SetsI n base pS gS done w) (hb : Below w.heap.size w w') : SetsI n base pS gS done w' ∧ ∀ i, SOwn gS w' i → SOwn gS w i := by
  obtain ⟨us, h1, h2, h3, h4, h5, h6, h7, h8⟩ := h
  have ho : ∀ i, SOwn gS w' i → SOwn gS w i := fun i hi => hi.below h1.lt hb
  have k : Kept (SOwn gS) w w' := ⟨hb.os, hb.tape, hb.output, hb.size, fun i hi _ => hb.block i hi, fun i _ h => ho i h⟩
  exact ⟨⟨us, h1.below hb, h2, h3, (hb.cell (lt_of_cell h4)).trans h4, fun h => h5 (ho _ h), h6, fun j u hu => (h7 j u hu).kept hn (fun i hi => h6 _ (byCol_mem hi)) (fun vs hr => hr.below hb) k, h8⟩, ho⟩
theorem SetsI.at_ {n base pS gS j : Nat} {done : List (List Nat)} {w : World} (h : SetsI n base pS gS done w) (hj : j < n) : ∃ B m c vs, w.cell? ⟨gS, j, none⟩ = some (.slice B m c) ∧ w.frozen? ⟨gS, j, none⟩ = false ∧ RowV w base (.slice B m c) vs ∧ vs.length = m ∧ m = (byCol done j).length := by
  obtain ⟨us, h1, h2, h3, h4, h5, h6, h7, h8⟩ := h
  have hl : j < us.length := by omega
  obtain ⟨B, m, c, e⟩ := h1.2 _ (List.getElem_mem hl)
  have hu : us[j]? = some (.slice B m c) := by rw [List.getElem?_eq_getElem hl, e]
  obtain ⟨vs, hr, hvl, _⟩ := h7 j _ hu
  obtain ⟨A', c', e', _⟩ := hr.form
  injection e' with _ e2 _
  exact ⟨B, m, c, vs, by rw [h1.cell]; exact hu, h1.frozen j, hr, e2.symm, by omega⟩
theorem SetsI.push {n base pS gS j b' c' : Nat} {done : List (List Nat)} {w w1 w' : World} {B : Option Addr} {m c : Nat} {vs : List Value} {A : Option Addr} {ca : Nat} {l : List Nat} (hn : 0 < n) (h : SetsI n base pS gS done w) (hj : j < n) (hl : l.length = n) (hl0 : l.getD 0 0 = j) (hli : IntsN (SOwn gS) w A l)
    (hc : w.cell? ⟨gS, j, none⟩ = some (.slice B m c)) (hvs : RowV w base (.slice B m c) vs) (hb : Below w.heap.size w w1) (hg : w1.grownBy w' (Value.ownBlock (.slice B m c))) (hrow : RowV w' base (.slice (some ⟨b', 0, none⟩) (vs.length + 1) c') (vs ++ [.slice A n ca])) (hbl : Value.ownBlock (.slice B m c) = some b' ∨ b' = w1.heap.size) :
    SetsI n base pS gS (done ++ [l]) (w'.setCell ⟨gS, j, none⟩ (.slice (some ⟨b', 0, none⟩) (vs.length + 1) c')) ∧ Kept (SOwn gS) w (w'.setCell ⟨gS, j, none⟩ (.slice (some ⟨b', 0, none⟩) (vs.length + 1) c')) := by
  have hI := h
  obtain ⟨us, h1, h2, h3, h4, h5, h6, h7, h8⟩ := h
  have hjl : j < us.length := by omega
  have huj : us[j]? = some (.slice B m c) := by rw [← h1.cell]; exact hc
  have hrj := h7 j _ huj
  have hne : some gS ≠ Value.ownBlock (.slice B m c) := fun e => h1.rowNe hvs e.symm
  have h1' : OwnW w' gS us := ⟨(hg.block gS (Nat.lt_of_lt_of_le h1.lt hb.size) hne).trans (h1.below hb).1, h1.2⟩
  obtain ⟨w2, hw2⟩ : ∃ z, z = w'.setCell ⟨gS, j, none⟩ (.slice (some ⟨b', 0, none⟩) (vs.length + 1) c') := ⟨_, rfl⟩
  have h1'' : OwnW w2 gS (us.set j (.slice (some ⟨b', 0, none⟩) (vs.length + 1) c')) := by rw [hw2]; exact h1'.set_ j ⟨_, _, _, rfl⟩
  have hfar : ∀ i, i ≠ gS → w2.heap[i]? = w'.heap[i]? := fun i hi => by rw [hw2]; exact Below.heap_setCell w' ⟨gS, j, none⟩ _ i hi
  have hown : ∀ i, SOwn gS w2 i → SOwn gS w i ∨ w.heap.size ≤ i := fun i hi => by
    rcases hi with rfl | ⟨k, u, hu, hbk⟩
    · exact .inl (.inl rfl)
    · rw [h1''.cell] at hu
      by_cases e : k = j
      · subst e
        rw [List.getElem?_set_self hjl] at hu
        injection hu with hu
        subst hu
        have hbi : b' = i := by simpa [Value.ownBlock] using hbk
        subst hbi
        rcases hbl with hbl | hbl
        · exact .inl (.inr ⟨k, _, hc, hbl⟩)
        · right; rw [hbl]; exact hb.size
      · rw [List.getElem?_set_ne (fun h => e h.symm)] at hu
        exact .inl (.inr ⟨k, u, by rw [h1.cell]; exact hu, hbk⟩)
  have k : Kept (SOwn gS) w w2 := by
    refine ⟨?_, ?_, ?_, ?_, fun i hi hn => ?_, fun i hi ho => ?_⟩
    · rw [hw2]; exact hg.os.trans hb.os
    · rw [hw2]; exact hg.tape.trans hb.tape
    · rw [hw2]; exact hg.output.trans hb.output
    · rw [hw2]; exact Nat.le_trans (Nat.le_trans hb.size hg.size) (by simp [World.setCell])
    · have e1 : i ≠ gS := fun e => hn (.inl e)
      have e2 : some i ≠ Value.ownBlock (.slice B m c) := fun e => hn (.inr ⟨j, _, hc, e.symm⟩)
      rw [hfar i e1, hg.block i (Nat.lt_of_lt_of_le hi hb.size) e2]
      exact hb.block i hi
    · rcases hown i ho with h | h
      · exact h
      · omega
  rw [← hw2]
  refine ⟨⟨us.set j (.slice (some ⟨b', 0, none⟩) (vs.length + 1) c'), h1'', by rw [List.length_set]; exact h2, h3, ?_, ?_, ?_, ?_, ?_⟩, k⟩
  · exact (World.cell?_of_block (k.block pS (lt_of_cell h4) h5)).trans h4
  · intro ho
    rcases hown pS ho with h | h
    · exact h5 h
    · have : pS < w.heap.size := lt_of_cell h4
      omega
  · intro l' hl'
    rcases List.mem_append.1 hl' with h | h
    · exact h6 l' h
    · rw [List.mem_singleton] at h; rw [h]; exact hl
  · intro i u hu
    by_cases e : i = j
    · subst e
      rw [List.getElem?_set_self hjl] at hu
      injection hu with hu
      subst hu
      rw [byCol_app, if_pos hl0]
      obtain ⟨vs2, hr2, hvl2, hent⟩ := hrj
      have hvv : vs2 = vs := by
        have e1 := hr2.form
        have e2 := hvs.form
        obtain ⟨A1, c1, e3, f1⟩ := e1
        obtain ⟨A2, c2, e4, f2⟩ := e2
        have e5 : vs2.length = vs.length := by rw [e3] at e4; injection e4
        apply List.ext_getElem? 
        intro q
        rcases Nat.lt_or_ge q vs.length with hq | hq
        · obtain ⟨g1, eg1, fg1⟩ := f1 (by omega)
          obtain ⟨g2, eg2, fg2⟩ := f2 (by omega)
          rw [e3] at e4
          injection e4 with e6 _ _
          rw [eg1, eg2] at e6
          injection e6 with e6
          injection e6 with e7 _
          rw [← fg1 q (by omega), ← fg2 q hq, e7]
        · rw [List.getElem?_eq_none hq, List.getElem?_eq_none (by omega)]
      subst hvv
      refine ⟨vs2 ++ [.slice A n ca], ?_, by rw [List.length_append, List.length_append, hvl2]; rfl, fun q v hv => ?_⟩
      · rw [hw2]
        have hrow : RowV w' base (.slice (some ⟨b', 0, none⟩) (vs2.length + 1) c') (vs2 ++ [.slice A n ca]) := hrow
        refine World.ownsRow.kept hrow (grown_setC w' ⟨gS, i, none⟩ _) ?_
        right
        exact fun e => h1'.rowNe hrow e
      · rcases Nat.lt_or_ge q vs2.length with hq | hq
        · rw [List.getElem?_append_left hq] at hv
          obtain ⟨A3, c3, e3, hi3⟩ := hent q v hv
          have eg : (byCol done i ++ [l]).getD q [] = (byCol done i).getD q [] := by
            rw [List.getD_eq_getElem?_getD, List.getElem?_append_left (by omega), ← List.getD_eq_getElem?_getD]
          rw [eg]
          exact ⟨A3, c3, e3, hi3.kept k (by rw [h6 _ (byCol_mem (by omega))]; exact hn)⟩
        · have hq2 : q = vs2.length := by
            rcases Nat.lt_or_ge vs2.length q with h | h
            · rw [List.getElem?_eq_none (by simp; omega)] at hv; cases hv
            · omega
          subst hq2
          have hv2 : v = .slice A n ca := by simpa using hv.symm
          have eg : (byCol done i ++ [l]).getD vs2.length [] = l := by rw [hvl2]; simp [List.getD_eq_getElem?_getD]
          rw [eg, hl]
          exact ⟨A, ca, hv2, hli.kept k (by omega)⟩
    · rw [List.getElem?_set_ne (fun h => e h.symm)] at hu
      rw [byCol_app, if_neg (fun h => e (by omega))]
      refine (h7 i u hu).kept hn (fun q hq => h6 _ (byCol_mem hq)) (fun vs3 hr3 => ?_) k
      have ha := h8 i j u _ e hu huj
      have hr4 : RowV w' base u vs3 := World.ownsRow.kept (hr3.below hb) hg (by
        cases hb' : u.ownBlock with
        | none => exact .inl rfl
        | some b2 => exact .inr (fun e2 => ha b2 hb' e2.symm))
      rw [hw2]
      refine World.ownsRow.kept hr4 (grown_setC w' ⟨gS, j, none⟩ _) (.inr fun e => h1'.rowNe hr4 e)
  · have key : ∀ q v0, q ≠ j → us[q]? = some v0 → ∀ b2, v0.ownBlock = some b2 → b2 ≠ b' := fun q v0 hq hv0 b2 hb2 e => by
      rw [e] at hb2
      rcases hbl with hbl | hbl
      · exact h8 q j v0 _ hq hv0 huj b' hb2 hbl
      · obtain ⟨vs3, hr3, _⟩ := h7 q v0 hv0
        have := (World.ownsRow.lt (hr3.below hb) b' hb2).2
        omega
    intro i q u v hiq hu hv
    by_cases e : i = j
    · subst e
      rw [List.getElem?_set_self hjl] at hu
      injection hu with hu
      subst hu
      rw [List.getElem?_set_ne hiq] at hv
      intro b2 hb2 hb3
      have : b' = b2 := by simpa [Value.ownBlock] using hb2
      exact key q v (fun h => hiq h.symm) hv b2 hb3 this.symm
    · rw [List.getElem?_set_ne (fun h => e h.symm)] at hu
      by_cases e2 : q = j
      · subst e2
        rw [List.getElem?_set_self hjl] at hv
        injection hv with hv
        subst hv
        intro b2 hb2 hb3
        have : b' = b2 := by simpa [Value.ownBlock] using hb3
        exact key i u e hu b2 hb2 this.symm
      · rw [List.getElem?_set_ne (fun h => e2 h.symm)] at hv
        exact h8 i q u v hiq hu hv
end Go.Proofs.YtiodednhadnekaaDoor
