/- Before the walk of Mate. -/
import Derived.Test.YtiodednhadnekaaDoorW26
namespace Go.Proofs.YtiodednhadnekaaDoor
open Go.RowKit Go.Deep

theorem trF_mem {b : List (List Int)} {n : Nat} : ∀ (k : Nat) (l : List Nat), l.length + k = n → (∀ i, i < l.length → l.getD i 0 < n) → ∀ l' ∈ trF b n k l, l'.length = n ∧ ∀ i, i < n → l'.getD i 0 < n
  | 0, l, h, hl, l', h' => by
    simp [trF] at h'
    subst h'
    exact ⟨by omega, fun i hi => hl i (by omega)⟩
  | k + 1, l, h, hl, l', h' => by
    unfold trF at h'
    rw [List.mem_flatMap] at h'
    obtain ⟨c, hc, h2⟩ := h'
    rw [List.mem_range] at hc
    split at h2
    · refine trF_mem k (l ++ [c]) (by simp; omega) (fun i hi => ?_) l' h2
      simp at hi
      rcases Nat.lt_or_ge i l.length with h3 | h3
      · rw [getD_app1 h3]; exact hl i h3
      · obtain rfl : i = l.length := by omega
        rw [getD_app2]; exact hc
    · simp at h2
theorem trans_mem {b : List (List Int)} {n : Nat} : ∀ l ∈ trans b n, l.length = n ∧ ∀ i, i < n → l.getD i 0 < n := trF_mem n [] (by simp) (fun i hi => by simp at hi)
theorem trans_many {b : List (List Int)} {n : Nat} (hn : n ≤ 7) : (trans b n).length ≤ 1000000 := by
  have h1 := trF_len b n n []
  have h2 : n ^ n ≤ 7 ^ 7 := Nat.le_trans (Nat.pow_le_pow_left hn n) (Nat.pow_le_pow_right (by decide) hn)
  have h3 : 7 ^ 7 = 823543 := by decide
  have h4 : (trans b n).length ≤ n ^ n := h1
  omega
theorem make_sets (n : Nat) (hn : n ≤ 1000000) (W : World) : (Instr.makeSlice 49 (.int .i64 (n : Int)) (.int .i64 (n : Int))).run Tryd.prog W =
    .ok (.slice (some ⟨W.heap.size, 0, none⟩) n n) (W.alloc (.cells (List.replicate n (Value.slice none 0 0)).toArray 22)) := by
  obtain ⟨i0, hi, hz0, hz1, hz2⟩ := info_parts (show (Tryd.prog.info? 22).map (fun i => (i.zero, i.size, i.bytes)) = some (some (.slice none 0 0), 1, 24) from by kernel_rfl)
  have hr := run_make (P := Tryd.prog) W 49 22 i0 (.slice none 0 0) Tryd.underlying49 hi hz0 .i64 .i64 n n (by omega) (by omega) (by rw [hz2]; omega) (by omega)
  have e : madeCells (Value.slice none 0 0).cells ((n : Int).toNat * i0.size) = (List.replicate n (Value.slice none 0 0)).toArray := by
    rw [hz1, Nat.mul_one, Int.toNat_natCast]
    apply Array.toList_inj.1
    exact (toList_madeCells_one _ _).trans (by simp)
  exact hr.trans (by rw [e, Int.toNat_natCast])
/-- The sets as they are made. -/
theorem SetsI.new {n base pS gS : Nat} {w : World} (h : OwnW w gS (List.replicate n (Value.slice none 0 0))) (hb : base ≤ gS) (hp : w.cell? ⟨pS, 0, none⟩ = some (.slice (some ⟨gS, 0, none⟩) n n)) (hne : pS ≠ gS) : SetsI n base pS gS [] w := by
  refine ⟨_, h, by simp, hb, hp, ?_, fun l hl => by simp at hl, fun j u hu => ?_, fun i j u v hij hu hv => ?_⟩
  · rintro (e | ⟨j, u, hu, hbk⟩)
    · exact hne e
    · rw [h.cell] at hu
      have := List.mem_of_getElem? hu
      rw [List.mem_replicate] at this
      rw [this.2] at hbk
      simp [Value.ownBlock] at hbk
  · have := List.mem_of_getElem? hu
    rw [List.mem_replicate] at this
    rw [this.2]
    exact ⟨[], RowV.nil w base, rfl, fun i v hv => by simp at hv⟩
  · have := List.mem_of_getElem? hu
    rw [List.mem_replicate] at this
    rw [this.2]
    intro b hb
    simp [Value.ownBlock] at hb
/-- What Mate reads of the sets. -/
theorem SetsI.mctx {n base pS gS pB k : Nat} {gr : Nat → Nat} {T : List (List Nat)} {w3 w : World} (h : SetsI n base pS gS T w3) (hb : Below w3.heap.size w3 w) (hB : w3.heap.size ≤ pB) (hg : ∀ r, r < n → w3.heap.size ≤ gr r) (hn : 0 < n) (hk : k < n) :
    ∃ B m c, CellR w n pB gr gS k (.slice B m c) ∧ m = (byCol T k).length ∧ ∀ i, i < m → ∃ b o, B = some ⟨b, o, none⟩ ∧ ∃ b' o' c', CellR w n pB gr b (o + i) (.slice (some ⟨b', o', none⟩) n c') ∧ ∀ j, j < n → CellR w n pB gr b' (o' + j) (.int .i64 (((byCol T k).getD i []).getD j 0 : Nat)) := by
  have hR : ∀ (p q : Nat) (x : Value), w3.cell? ⟨p, q, none⟩ = some x → CellR w n pB gr p q x := fun p q x hx => by
    have hlt := lt_of_cell hx
    refine ⟨(hb.cell hlt).trans hx, ?_⟩
    rintro (e | ⟨r, hr, e⟩)
    · have : p < w3.heap.size := hlt
      omega
    · have := hg r hr
      have : p < w3.heap.size := hlt
      omega
  obtain ⟨us, h1, h2, h3, h4, h5, h6, h7, h8⟩ := h
  have hl : k < us.length := by omega
  obtain ⟨B, m, c, e⟩ := h1.2 _ (List.getElem_mem hl)
  have hu : us[k]? = some (.slice B m c) := by rw [List.getElem?_eq_getElem hl, e]
  obtain ⟨vs, hr, hvl, hent⟩ := h7 k _ hu
  obtain ⟨A', c', e', hcell⟩ := hr.form
  injection e' with e1 e2 e3
  subst e1 e2 e3
  refine ⟨B, vs.length, c, hR _ _ _ (by rw [h1.cell]; exact hu), hvl, fun i hi => ?_⟩
  obtain ⟨g, eB, hgc⟩ := hcell (by omega)
  refine ⟨g, 0, eB, ?_⟩
  obtain ⟨A, c2, ev, hI⟩ := hent i vs[i] (List.getElem?_eq_getElem hi)
  have hln := h6 _ (byCol_mem (done := T) (j := k) (i := i) (by omega))
  have hII := hI.1
  rw [hln] at hII ev
  obtain ⟨b', o', eA, _⟩ := hII.at_ hn
  subst eA
  refine ⟨b', o', c2, hR _ _ _ ?_, fun j hj => hR _ _ _ ?_⟩
  · rw [Nat.zero_add, hgc i hi, List.getElem?_eq_getElem hi, ev]
  · obtain ⟨b2, o2, e2, hc⟩ := hII.at_ hj
    injection e2 with e2
    injection e2 with e3 e4
    subst e3 e4
    rw [hc, zs_get]
/-- The rows that Mate tries, as far as they are made. -/
def OutI (w : World) (gO n r : Nat) (G : List Nat) : Prop := G.length = r ∧ OwnV w gO (G.map (fun g => Value.slice (some ⟨g, 0, none⟩) n n) ++ List.replicate (n - r) (Value.slice none 0 0)) ∧ (∀ j, j < r → Own w (G.getD j 0) (List.replicate n (-1))) ∧ (∀ j, j < r → gO < G.getD j 0) ∧ ∀ i j, i < j → j < r → G.getD i 0 < G.getD j 0
theorem OutI.start (w : World) (n : Nat) : OutI (w.alloc (.cells (List.replicate n (Value.slice none 0 0)).toArray 29)) w.heap.size n 0 [] :=
  ⟨rfl, by have := OwnV.made w n; simpa using this, fun j hj => absurd hj (by omega), fun j hj => absurd hj (by omega), fun i j _ hj => absurd hj (by omega)⟩
theorem OutI.below {w w' : World} {gO n r : Nat} {G : List Nat} (h : OutI w gO n r G) (hb : Below w.heap.size w w') : OutI w' gO n r G :=
  ⟨h.1, h.2.1.below hb, fun j hj => (h.2.2.1 j hj).below' hb, h.2.2.2.1, h.2.2.2.2⟩
theorem OutI.next {w w' : World} {gO n r g : Nat} {G : List Nat} (h : OutI w gO n r G) (hr : r < n) (hb : Below w.heap.size w w') (hg : Own w' g (List.replicate n (-1))) (hge : w.heap.size ≤ g) : OutI (w'.setCell ⟨gO, r, none⟩ (.slice (some ⟨g, 0, none⟩) n n)) gO n (r + 1) (G ++ [g]) := by
  have hlt := h.2.1.lt
  obtain ⟨h1, h2, h3, h4, h5⟩ := h.below hb
  have hgl : ∀ j, j < r → G.getD j 0 < w.heap.size := fun j hj => (h.2.2.1 j hj).lt
  have e1 : ∀ j, j < r → (G ++ [g]).getD j 0 = G.getD j 0 := fun j hj => by
    rw [List.getD_eq_getElem?_getD, List.getElem?_append_left (by omega), ← List.getD_eq_getElem?_getD]
  have e2 : (G ++ [g]).getD r 0 = g := by rw [← h1]; simp [List.getD_eq_getElem?_getD]
  refine ⟨by simp [h1], ?_, fun j hj => ?_, fun j hj => ?_, fun i j hij hj => ?_⟩
  · have := h2.set_ r (v := .slice (some ⟨g, 0, none⟩) n n) ⟨_, _, _, rfl⟩
    have e : (G.map (fun g => Value.slice (some ⟨g, 0, none⟩) n n) ++ List.replicate (n - r) (Value.slice none 0 0)).set r (.slice (some ⟨g, 0, none⟩) n n) = (G ++ [g]).map (fun g => Value.slice (some ⟨g, 0, none⟩) n n) ++ List.replicate (n - (r + 1)) (Value.slice none 0 0) := by
      rw [List.set_append_right _ _ (by simp [h1])]
      have e3 : n - r = (n - (r + 1)) + 1 := by omega
      rw [e3, List.replicate_succ]
      simp [h1]
    rw [← e]
    exact this
  · by_cases e : j = r
    · subst e
      rw [e2]
      exact hg.far (p := ⟨gO, j, none⟩) (by show g ≠ gO; omega) _
    · rw [e1 j (by omega)]
      exact (h3 j (by omega)).far (p := ⟨gO, r, none⟩) (by have := h4 j (by omega); show G.getD j 0 ≠ gO; omega) _
  · by_cases e : j = r
    · subst e; rw [e2]; omega
    · rw [e1 j (by omega)]; exact h4 j (by omega)
  · by_cases e : j = r
    · subst e; rw [e2, e1 i hij]; have := hgl i hij; omega
    · rw [e1 j (by omega), e1 i (by omega)]; exact h5 i j hij (by omega)
theorem OutI.cell {w : World} {gO n : Nat} {G : List Nat} (h : OutI w gO n n G) {r : Nat} (hr : r < n) : w.cell? ⟨gO, r, none⟩ = some (.slice (some ⟨G.getD r 0, 0, none⟩) n n) := by
  obtain ⟨h1, h2, _⟩ := h
  rw [h2.cell, List.getElem?_append_left (by simp [h1]; exact hr)]
  simp [List.getD_eq_getElem?_getD, show r < G.length by omega]
theorem OutI.spot {w : World} {gO n r : Nat} {G : List Nat} (h : OutI w gO n r G) (hr : r < n) : (∃ u, w.cell? ⟨gO, r, none⟩ = some u) ∧ w.frozen? ⟨gO, r, none⟩ = false := by
  obtain ⟨h1, h2, _⟩ := h
  refine ⟨?_, h2.frozen r⟩
  rw [h2.cell]
  have hlt : r < (G.map (fun g => Value.slice (some ⟨g, 0, none⟩) n n) ++ List.replicate (n - r) (Value.slice none 0 0)).length := by simp; omega
  exact ⟨_, List.getElem?_eq_getElem hlt⟩
end Go.Proofs.YtiodednhadnekaaDoor
