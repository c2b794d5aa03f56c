/- Plain laws: row by row. No condition. -/
import Derived.Test.YtiodednhadnekaaDoorPlain18
namespace Go.Proofs.YtiodednhadnekaaDoor

section
variable {n : Nat} {P : List Tri} {D : List Nat} {G : Nat → Nat → Nat} {ρ : Nat}
def rowE (P : List Tri) (ρ : Nat) : List Tri := P.filter fun t => decide (t.1 = ρ)
def restE (P : List Tri) (D : List Nat) (ρ : Nat) : List Tri := P.filter fun t => !decide (t.1 ∈ ρ :: D)
def doneE (P : List Tri) (D : List Nat) : List Tri := P.filter fun t => decide (t.1 ∈ D)
theorem mem_rowE {t : Tri} : t ∈ rowE P ρ ↔ t ∈ P ∧ t.1 = ρ := by unfold rowE; rw [List.mem_filter, decide_eq_true_eq]
theorem mem_restE {t : Tri} : t ∈ restE P D ρ ↔ t ∈ P ∧ t.1 ≠ ρ ∧ t.1 ∉ D := by
  unfold restE
  rw [List.mem_filter, Bool.not_eq_true', decide_eq_false_iff_not, List.mem_cons, not_or]
theorem lens (hD : ρ ∉ D) : (doneE P (ρ :: D)).length = (doneE P D).length + (rowE P ρ).length ∧ (doneE P (ρ :: D)).length + (restE P D ρ).length = P.length := by
  refine ⟨?_, flt_two _ _⟩
  unfold doneE rowE
  induction P with
  | nil => rfl
  | cons t P ih =>
    rw [List.filter_cons, List.filter_cons, List.filter_cons]
    by_cases h1 : t.1 = ρ
    · have h2 : t.1 ∉ D := by rw [h1]; exact hD
      simp [h1, hD] at ih ⊢
      omega
    · by_cases h2 : t.1 ∈ D
      · simp [h1, h2] at ih ⊢
        omega
      · simp [h1, h2] at ih ⊢
        omega
def opA (P : List Tri) (D : List Nat) (G : Nat → Nat → Nat) (ρ c x : Nat) : Bool := !((rowE P ρ).map fun t => t.2.2).contains x && (D.all fun r => decide (G r c ≠ x)) && ((restE P D ρ).all fun t => decide (¬ (t.2.1 = c ∧ t.2.2 = x)))
theorem opA_iff {c x : Nat} : opA P D G ρ c x = true ↔ (∀ t ∈ P, t.1 = ρ → t.2.2 ≠ x) ∧ (∀ r ∈ D, G r c ≠ x) ∧ ∀ t ∈ P, t.1 ≠ ρ → t.1 ∉ D → t.2.1 = c → t.2.2 ≠ x := by
  unfold opA
  rw [Bool.and_eq_true, Bool.and_eq_true, Bool.not_eq_true', ← Bool.not_eq_true, List.contains_iff_mem, List.mem_map, List.all_eq_true, List.all_eq_true]
  simp only [decide_eq_true_eq]
  constructor
  · rintro ⟨⟨h1, h2⟩, h3⟩
    exact ⟨fun t ht e e2 => h1 ⟨t, mem_rowE.2 ⟨ht, e⟩, e2⟩, h2, fun t ht e1 e2 e3 e4 => h3 t (mem_restE.2 ⟨ht, e1, e2⟩) ⟨e3, e4⟩⟩
  · rintro ⟨h1, h2, h3⟩
    refine ⟨⟨?_, h2⟩, fun t ht e => ?_⟩
    · rintro ⟨t, ht, e⟩
      obtain ⟨a, b⟩ := mem_rowE.1 ht
      exact h1 t a b e
    · obtain ⟨a, b, c⟩ := mem_restE.1 ht
      exact h3 t a b c e.1 e.2
def colJ (n : Nat) (P : List Tri) (ρ : Nat) : List Nat := (List.range n).filter fun c => !((rowE P ρ).map fun t => t.2.1).contains c
theorem mem_colJ {c : Nat} : c ∈ colJ n P ρ ↔ c < n ∧ ∀ t ∈ P, t.1 = ρ → t.2.1 ≠ c := by
  unfold colJ
  rw [List.mem_filter, List.mem_range, Bool.not_eq_true', ← Bool.not_eq_true, List.contains_iff_mem, List.mem_map]
  refine and_congr Iff.rfl ⟨fun h t ht e e2 => h ⟨t, mem_rowE.2 ⟨ht, e⟩, e2⟩, ?_⟩
  rintro h ⟨t, ht, e⟩
  obtain ⟨a, b⟩ := mem_rowE.1 ht
  exact h t a b e
theorem row_nodup (hP : Par n P) (f : Tri → Nat) (hf : ∀ a b : Tri, a.1 = b.1 → f a = f b → Cl a b) : ((rowE P ρ).map f).Nodup := by
  have h : (rowE P ρ).Pairwise fun a b => ¬ Cl a b := hP.2.filter _
  refine List.pairwise_map.2 (List.Pairwise.imp_of_mem (fun {a b} ha hb hab e => hab (hf a b ?_ e)) h)
  rw [(mem_rowE.1 ha).2, (mem_rowE.1 hb).2]
theorem twice_le (hP : Par n P) (h2 : ∀ t ∈ P, ∃ u ∈ P, u.1 = t.1 ∧ u ≠ t) (x : Nat) : 2 * ((restE P D ρ).filter fun t => decide (t.2.2 = x)).length ≤ (restE P D ρ).length := by
  have hs := flt_two (fun t : Tri => decide (t.2.2 = x)) (restE P D ρ)
  have hex : ∃ u : Tri → Tri, ∀ t ∈ P, u t ∈ P ∧ (u t).1 = t.1 ∧ u t ≠ t := by
    refine ⟨fun t => if h : t ∈ P then (h2 t h).choose else t, fun t ht => ?_⟩
    simp only [dif_pos ht]
    exact (h2 t ht).choose_spec
  obtain ⟨u, hu⟩ := hex
  have hpar : ((restE P D ρ).filter fun t => decide (t.2.2 = x)).Pairwise fun a b => ¬ Cl a b := (hP.2.filter _).filter _
  have hnd : (((restE P D ρ).filter fun t => decide (t.2.2 = x)).map u).Nodup := List.pairwise_map.2 (List.Pairwise.imp_of_mem (fun {a b} ha hb hab e => by
    obtain ⟨a1, a2⟩ := List.mem_filter.1 ha
    obtain ⟨b1, b2⟩ := List.mem_filter.1 hb
    have ea := (hu a (mem_restE.1 a1).1).2.1
    have eb := (hu b (mem_restE.1 b1).1).2.1
    rw [e, eb] at ea
    exact hab (.inr (.inl ⟨ea.symm, by rw [of_decide_eq_true a2, of_decide_eq_true b2]⟩))) hpar)
  have := nodup_sub hnd (m := (restE P D ρ).filter fun t => !decide (t.2.2 = x)) fun y hy => by
    obtain ⟨a, ha, rfl⟩ := List.mem_map.1 hy
    obtain ⟨a1, a2⟩ := List.mem_filter.1 ha
    obtain ⟨m1, m2, m3⟩ := mem_restE.1 a1
    obtain ⟨u1, u2, u3⟩ := hu a m1
    refine List.mem_filter.2 ⟨mem_restE.2 ⟨u1, by rw [u2]; exact m2, by rw [u2]; exact m3⟩, ?_⟩
    rw [Bool.not_eq_true', decide_eq_false_iff_not]
    intro e
    exact u3 (hP.eq u1 m1 (.inr (.inl ⟨u2, by rw [e, of_decide_eq_true a2]⟩)))
  rw [List.length_map] at this
  omega
theorem few_hall (h7 : n ≤ 7) (hP : Par n P) (hlen : P.length < n) (h2 : ∀ t ∈ P, ∃ u ∈ P, u.1 = t.1 ∧ u ≠ t) (hM : Mid n P D G) (hD2 : 2 * D.length ≤ (doneE P D).length) (hρ : ρ ∉ D) : HallP (opA P D G ρ) n (colJ n P ρ) := by
  intro I hI hs
  refine Classical.byContradiction fun hno => ?_
  have hno : (nb (opA P D G ρ) n I).length < I.length := by omega
  obtain ⟨l1, l2⟩ := lens (P := P) hρ
  have hJ := not_mem_len (n := n) (J := List.range n) (I := (rowE P ρ).map fun t => t.2.1) List.nodup_range (row_nodup hP (fun t => t.2.1) fun a b h1 h3 => .inl ⟨h1, h3⟩) (fun j hj => by
    obtain ⟨t, ht, rfl⟩ := List.mem_map.1 hj
    exact List.mem_range.2 (hP.1 t (mem_rowE.1 ht).1).2.1)
  rw [List.length_map, List.length_range] at hJ
  have hIJ := nodup_sub hI (m := colJ n P ρ) hs
  unfold colJ at hIJ
  -- the crops that are open in none of the columns
  have hmnb : ∀ x, x ∈ nb (opA P D G ρ) n I ↔ x < n ∧ ∃ j ∈ I, opA P D G ρ j x = true := fun x => by
    unfold nb
    rw [List.mem_filter, List.mem_range, List.any_eq_true]
  have hVl := not_mem_len (n := n) (J := List.range n) (I := ((rowE P ρ).map fun t => t.2.2) ++ nb (opA P D G ρ) n I) List.nodup_range (List.nodup_append.2 ⟨row_nodup hP (fun t => t.2.2) fun a b h1 h3 => .inr (.inl ⟨h1, h3⟩), List.nodup_range.filter _, fun a ha b hb e => by
      obtain ⟨t, ht, e2⟩ := List.mem_map.1 ha
      obtain ⟨m1, m2⟩ := mem_rowE.1 ht
      obtain ⟨_, j, _, hj⟩ := (hmnb b).1 hb
      exact (opA_iff.1 hj).1 t m1 m2 (e2.trans e)⟩) (fun x hx => by
    rcases List.mem_append.1 hx with hx | hx
    · obtain ⟨t, ht, rfl⟩ := List.mem_map.1 hx
      exact List.mem_range.2 (hP.1 t (mem_rowE.1 ht).1).2.2
    · exact List.mem_range.2 ((hmnb x).1 hx).1)
  rw [List.length_append, List.length_map, List.length_range] at hVl
  obtain ⟨V, hV⟩ : ∃ z, z = (List.range n).filter fun x => !(((rowE P ρ).map fun t => t.2.2) ++ nb (opA P D G ρ) n I).contains x := ⟨_, rfl⟩
  rw [← hV] at hVl
  have hVn : V.Nodup := by rw [hV]; exact List.nodup_range.filter _
  have hVm : ∀ x ∈ V, ∀ j ∈ I, (∃ r ∈ D, G r j = x) ∨ ∃ t ∈ restE P D ρ, t.2.1 = j ∧ t.2.2 = x := fun x hx j hj => by
    rw [hV, List.mem_filter, List.mem_range, Bool.not_eq_true', ← Bool.not_eq_true, List.contains_iff_mem, List.mem_append, not_or] at hx
    refine Classical.byContradiction fun hn2 => ?_
    rw [not_or] at hn2
    refine hx.2.2 ((hmnb x).2 ⟨hx.1, j, hj, opA_iff.2 ⟨fun t ht e e2 => hx.2.1 (List.mem_map.2 ⟨t, mem_rowE.2 ⟨ht, e⟩, e2⟩), fun r hr e => hn2.1 ⟨r, hr, e⟩, fun t ht e1 e2 e3 e4 => hn2.2 ⟨t, mem_restE.2 ⟨ht, e1, e2⟩, e3, e4⟩⟩⟩)
  -- all of them are barred in each column
  have hk : I.length * V.length ≤ I.length * D.length + (restE P D ρ).length := by
    have h3 := cols_le I (restE P D ρ) hI
    have h4 : ∀ K : List Nat, (∀ j ∈ K, j ∈ I) → K.length * V.length ≤ K.length * D.length + (K.map fun j => ((restE P D ρ).filter fun t => decide (t.2.1 = j)).length).sum := by
      intro K
      induction K with
      | nil => intro _; simp
      | cons j K ih =>
        intro hK
        have ih := ih fun i hi => hK i (by simp [hi])
        have h5 := nodup_sub hVn (m := (D.map fun r => G r j) ++ ((restE P D ρ).filter fun t => decide (t.2.1 = j)).map fun t => t.2.2) fun x hx => by
          rcases hVm x hx j (hK j (by simp)) with ⟨r, hr, e⟩ | ⟨t, ht, e1, e2⟩
          · exact List.mem_append.2 (.inl (List.mem_map.2 ⟨r, hr, e⟩))
          · exact List.mem_append.2 (.inr (List.mem_map.2 ⟨t, List.mem_filter.2 ⟨ht, decide_eq_true e1⟩, e2⟩))
        rw [List.length_append, List.length_map, List.length_map] at h5
        rw [List.length_cons, List.map_cons, List.sum_cons, Nat.succ_mul, Nat.succ_mul]
        omega
    have := h4 I fun _ h => h
    omega
  have hVpos : 0 < V.length := by omega
  obtain ⟨x, hx⟩ : ∃ x, x ∈ V := by
    cases V with
    | nil => simp at hVpos
    | cons x _ => exact ⟨x, by simp⟩
  have hX : I.length ≤ D.length + ((restE P D ρ).filter fun t => decide (t.2.2 = x)).length := by
    have hcol : ∃ q : Nat → Nat, ∀ r ∈ D, ∀ j ∈ I, G r j = x → q r = j := by
      refine ⟨fun r => if h : ∃ j ∈ I, G r j = x then h.choose else 0, fun r hr j hj e => ?_⟩
      have h : ∃ j ∈ I, G r j = x := ⟨j, hj, e⟩
      simp only [dif_pos h]
      have h5 := h.choose_spec
      refine Classical.byContradiction fun hne => ?_
      exact hM.rect.row r hr h.choose j (mem_colJ.1 (hs _ h5.1)).1 (mem_colJ.1 (hs _ hj)).1 hne (by rw [h5.2, e])
    obtain ⟨q, hq⟩ := hcol
    have h5 := nodup_sub hI (m := (D.map q) ++ ((restE P D ρ).filter fun t => decide (t.2.2 = x)).map fun t => t.2.1) fun j hj => by
      rcases hVm x hx j hj with ⟨r, hr, e⟩ | ⟨t, ht, e1, e2⟩
      · exact List.mem_append.2 (.inl (List.mem_map.2 ⟨r, hr, hq r hr j hj e⟩))
      · exact List.mem_append.2 (.inr (List.mem_map.2 ⟨t, List.mem_filter.2 ⟨ht, decide_eq_true e2⟩, e1⟩))
    rw [List.length_append, List.length_map, List.length_map] at h5
    exact h5
  have h6 := twice_le (D := D) (ρ := ρ) hP h2 x
  exact hall_no (k := I.length) (v := V.length) (d := D.length) (F := (restE P D ρ).length) (by omega) (by omega) (by omega) hk hX h6
end
end Go.Proofs.YtiodednhadnekaaDoor
