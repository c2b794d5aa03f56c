/- Plain laws: row by row to the end. No condition. -/
import Derived.Test.YtiodednhadnekaaDoorPlain19
namespace Go.Proofs.YtiodednhadnekaaDoor

theorem mid_step {n : Nat} {P : List Tri} {D : List Nat} {G : Nat → Nat → Nat} {ρ : Nat} (h7 : n ≤ 7) (hP : Par n P) (hlen : P.length < n) (h2 : ∀ t ∈ P, ∃ u ∈ P, u.1 = t.1 ∧ u ≠ t) (hM : Mid n P D G) (hD2 : 2 * D.length ≤ (doneE P D).length) (hρ : ρ ∉ D) (hρn : ρ < n) : ∃ g, Mid n P (ρ :: D) (putR G ρ g) := by
  have hH := few_hall h7 hP hlen h2 hM hD2 hρ
  obtain ⟨l1, l2⟩ := lens (P := P) hρ
  have hJ := not_mem_len (n := n) (J := List.range n) (I := (rowE P ρ).map fun t => t.2.1) List.nodup_range (row_nodup hP (fun t => t.2.1) fun a b h1 h3 => .inl ⟨h1, h3⟩) (fun j hj => by
    obtain ⟨t, ht, rfl⟩ := List.mem_map.1 hj
    exact List.mem_range.2 (hP.1 t (mem_rowE.1 ht).1).2.1)
  rw [List.length_map, List.length_range] at hJ
  have hJl : 1 ≤ (colJ n P ρ).length := by unfold colJ; omega
  have hJn : (colJ n P ρ).Nodup := List.nodup_range.filter _
  obtain ⟨L, a1, a2, _⟩ := hall (n := n) (colJ n P ρ).length (colJ n P ρ) (opA P D G ρ) 1 rfl hJn hH (fun j hj => by
    have := hH [j] (by simp) (fun i hi => by rw [List.mem_singleton] at hi; subst hi; exact hj)
    unfold nb at this
    simpa using this) hJl
  obtain ⟨f, hf⟩ : ∃ f, f ∈ L := by
    cases L with
    | nil => simp [factN] at a1
    | cons f _ => exact ⟨f, by simp⟩
  obtain ⟨f1, f2⟩ := a2 f hf
  have hg : ∃ g : Nat → Nat, (∀ t ∈ P, t.1 = ρ → g t.2.1 = t.2.2) ∧ ∀ c ∈ colJ n P ρ, g c = f c := by
    refine ⟨fun c => match (rowE P ρ).find? (fun t => decide (t.2.1 = c)) with | some t => t.2.2 | none => f c, fun t ht e => ?_, fun c hc => ?_⟩
    · show (match (rowE P ρ).find? (fun u => decide (u.2.1 = t.2.1)) with | some t => t.2.2 | none => f t.2.1) = t.2.2
      cases hx : (rowE P ρ).find? (fun u => decide (u.2.1 = t.2.1)) with
      | none => exact absurd (decide_eq_true rfl) (List.find?_eq_none.1 hx t (mem_rowE.2 ⟨ht, e⟩))
      | some u =>
        have h3 := List.find?_some hx
        have h3 := of_decide_eq_true h3
        have h4 := mem_rowE.1 (List.mem_of_find?_eq_some hx)
        rw [hP.eq h4.1 ht (.inl ⟨h4.2.trans e.symm, h3⟩)]
    · show (match (rowE P ρ).find? (fun u => decide (u.2.1 = c)) with | some t => t.2.2 | none => f c) = f c
      cases hx : (rowE P ρ).find? (fun u => decide (u.2.1 = c)) with
      | none => rfl
      | some u =>
        have h3 := List.find?_some hx
        have h3 := of_decide_eq_true h3
        have h4 := mem_rowE.1 (List.mem_of_find?_eq_some hx)
        exact absurd h3 ((mem_colJ.1 hc).2 u h4.1 h4.2)
  obtain ⟨g, g1, g2⟩ := hg
  have hcase : ∀ c, c < n → (∃ t ∈ P, t.1 = ρ ∧ t.2.1 = c) ∨ c ∈ colJ n P ρ := fun c hc => by
    by_cases h : ∃ t ∈ P, t.1 = ρ ∧ t.2.1 = c
    · exact .inl h
    · exact .inr (mem_colJ.2 ⟨hc, fun t ht e e2 => h ⟨t, ht, e, e2⟩⟩)
  have hA : ∀ c ∈ colJ n P ρ, _ := fun c hc => opA_iff.1 (f1 c hc).2
  have hne : ∀ r ∈ D, r ≠ ρ := fun r hr e => hρ (e ▸ hr)
  refine ⟨g, ⟨hM.rect.put hρn hρ (fun c hc => ?_) (fun c d hc hd hcd => ?_) (fun r hr c hc => ?_), fun t ht hm => ?_, fun t ht hm r hr => ?_⟩⟩
  · rcases hcase c hc with ⟨t, ht, e, rfl⟩ | h
    · rw [g1 t ht e]; exact (hP.1 t ht).2.2
    · rw [g2 c h]; exact (f1 c h).1
  · rcases hcase c hc with ⟨t, ht, e, rfl⟩ | h
    · rcases hcase d hd with ⟨u, hu, e2, rfl⟩ | h3
      · rw [g1 t ht e, g1 u hu e2]
        exact fun e3 => hcd (by rw [hP.eq ht hu (.inr (.inl ⟨e.trans e2.symm, e3⟩))])
      · rw [g1 t ht e, g2 d h3]
        exact (hA d h3).1 t ht e
    · rcases hcase d hd with ⟨u, hu, e2, rfl⟩ | h3
      · rw [g2 c h, g1 u hu e2]
        exact fun e3 => (hA c h).1 u hu e2 e3.symm
      · rw [g2 c h, g2 d h3]
        exact f2 c h d h3 hcd
  · rcases hcase c hc with ⟨t, ht, e, rfl⟩ | h
    · rw [g1 t ht e]
      exact hM.free t ht (by rw [e]; exact hρ) r hr
    · rw [g2 c h]
      exact (hA c h).2.1 r hr
  · rcases List.mem_cons.1 hm with e | hm
    · rw [e, putR_at]; exact g1 t ht e
    · rw [putR_ne (hne _ hm)]; exact hM.done t ht hm
  · rw [List.mem_cons, not_or] at hm
    rcases List.mem_cons.1 hr with e | hr
    · rw [e, putR_at]
      rcases hcase t.2.1 (hP.1 t ht).2.1 with ⟨u, hu, e1, e2⟩ | h
      · rw [← e2, g1 u hu e1]
        intro e3
        have := hP.eq hu ht (.inr (.inr ⟨e2, e3⟩))
        rw [this] at e1
        exact hm.1 e1
      · rw [g2 _ h]
        exact fun e3 => (hA _ h).2.2 t ht hm.1 hm.2 rfl e3.symm
    · rw [putR_ne (hne r hr)]; exact hM.free t ht hm.2 r hr
theorem few_go {n : Nat} {P : List Tri} (h1 : 1 ≤ n) (h7 : n ≤ 7) (hP : Par n P) (hlen : P.length < n) (h2 : ∀ t ∈ P, ∃ u ∈ P, u.1 = t.1 ∧ u ≠ t) : ∀ (k : Nat) (D : List Nat) (G : Nat → Nat → Nat), n ≤ D.length + k → Mid n P D G → 2 * D.length ≤ (doneE P D).length → Com n P
  | 0, D, G, hk, hM, hD => by
    have h3 : (doneE P D).length ≤ P.length := List.length_filter_le _ _
    omega
  | k + 1, D, G, hk, hM, hD => by
    by_cases h : ∃ t ∈ P, t.1 ∉ D
    · obtain ⟨t, ht, htD⟩ := h
      obtain ⟨g, hg⟩ := mid_step h7 hP hlen h2 hM hD htD (hP.1 t ht).1
      refine few_go h1 h7 hP hlen h2 k (t.1 :: D) (putR G t.1 g) (by simp; omega) hg ?_
      obtain ⟨l1, _⟩ := lens (P := P) htD
      obtain ⟨u, hu, e, hne⟩ := h2 t ht
      have h5 := nodup_sub (l := [t, u]) (by simp; exact fun e => hne e.symm) (m := rowE P t.1) (fun x hx => by
        rcases List.mem_cons.1 hx with rfl | hx
        · exact mem_rowE.2 ⟨ht, rfl⟩
        · rw [List.mem_singleton] at hx; subst hx; exact mem_rowE.2 ⟨hu, e⟩)
      simp only [List.length_cons, List.length_nil] at h5 ⊢
      omega
    · obtain ⟨L, hL, he⟩ := rect_full h1 h7 (n - D.length) D G (by have := hM.rect.len; omega) hM.rect
      refine ⟨L, hL, fun t ht => ?_⟩
      have hm : t.1 ∈ D := Classical.byContradiction fun hn => h ⟨t, ht, hn⟩
      rw [he _ hm _ (hP.1 t ht).2.1]
      exact hM.done t ht hm
/-- If each row that is sown has two crops at least. -/
theorem few_com {n : Nat} {P : List Tri} (h1 : 1 ≤ n) (h7 : n ≤ 7) (hP : Par n P) (hlen : P.length < n) (h2 : ∀ t ∈ P, ∃ u ∈ P, u.1 = t.1 ∧ u ≠ t) : Com n P :=
  few_go h1 h7 hP hlen h2 n [] (fun _ _ => 0) (by simp) ⟨⟨List.nodup_nil, by simp, by simp, by simp, by simp⟩, by simp, by simp⟩ (by simp)
end Go.Proofs.YtiodednhadnekaaDoor
