/- Plain laws: squares that are sown in part, as lists of triples (row, column, crop). No condition. -/
import Derived.Test.YtiodednhadnekaaDoorW72
namespace Go.Proofs.YtiodednhadnekaaDoor

abbrev Tri := Nat × Nat × Nat
def Cl (a b : Tri) : Prop := (a.1 = b.1 ∧ a.2.1 = b.2.1) ∨ (a.1 = b.1 ∧ a.2.2 = b.2.2) ∨ (a.2.1 = b.2.1 ∧ a.2.2 = b.2.2)
def Par (n : Nat) (P : List Tri) : Prop := (∀ t ∈ P, t.1 < n ∧ t.2.1 < n ∧ t.2.2 < n) ∧ P.Pairwise fun a b => ¬ Cl a b
structure Lat (n : Nat) (L : Nat → Nat → Nat) : Prop where
  lt : ∀ i j, i < n → j < n → L i j < n
  row : ∀ i j k, i < n → j < n → k < n → j ≠ k → L i j ≠ L i k
  col : ∀ i j k, i < n → j < n → k < n → i ≠ k → L i j ≠ L k j
def Com (n : Nat) (P : List Tri) : Prop := ∃ L, Lat n L ∧ ∀ t ∈ P, L t.1 t.2.1 = t.2.2
theorem Cl.symm {a b : Tri} (h : Cl a b) : Cl b a := by
  rcases h with ⟨h1, h2⟩ | ⟨h1, h2⟩ | ⟨h1, h2⟩
  · exact .inl ⟨h1.symm, h2.symm⟩
  · exact .inr (.inl ⟨h1.symm, h2.symm⟩)
  · exact .inr (.inr ⟨h1.symm, h2.symm⟩)
theorem pw_eq : ∀ {P : List Tri}, (P.Pairwise fun a b => ¬ Cl a b) → ∀ {a b : Tri}, a ∈ P → b ∈ P → Cl a b → a = b
  | [], _, a, _, ha, _, _ => by cases ha
  | x :: P, h, a, b, ha, hb, hc => by
    rw [List.pairwise_cons] at h
    rcases List.mem_cons.1 ha with e | ha
    · rcases List.mem_cons.1 hb with e2 | hb
      · rw [e, e2]
      · rw [e] at hc; exact absurd hc (h.1 b hb)
    · rcases List.mem_cons.1 hb with e2 | hb
      · rw [e2] at hc; exact absurd hc.symm (h.1 a ha)
      · exact pw_eq h.2 ha hb hc
theorem Par.eq {n : Nat} {P : List Tri} (h : Par n P) {a b : Tri} (ha : a ∈ P) (hb : b ∈ P) (hc : Cl a b) : a = b := pw_eq h.2 ha hb hc
theorem Par.nodup {n : Nat} {P : List Tri} (h : Par n P) : P.Nodup := h.2.imp fun {a b} hab e => hab (by subst e; exact .inl ⟨rfl, rfl⟩)
/-- An injective map of the triples that keeps apart what is apart. -/
theorem Par.map {n m : Nat} {P : List Tri} (h : Par n P) (F : Tri → Tri) (h1 : ∀ t ∈ P, (F t).1 < m ∧ (F t).2.1 < m ∧ (F t).2.2 < m) (h2 : ∀ a ∈ P, ∀ b ∈ P, Cl (F a) (F b) → Cl a b) : Par m (P.map F) := by
  refine ⟨fun t ht => ?_, ?_⟩
  · obtain ⟨a, ha, rfl⟩ := List.mem_map.1 ht
    exact h1 a ha
  · rw [List.pairwise_map]
    exact h.2.imp_of_mem fun {a b} ha hb hab hc => hab (h2 a ha b hb hc)
/-- Rows and columns moved. -/
theorem com_move {n : Nat} {P : List Tri} {f g : Nat → Nat} (hf : ∀ i, i < n → f i < n) (hg : ∀ i, i < n → g i < n) (fi : ∀ i j, i < n → j < n → f i = f j → i = j) (gi : ∀ i j, i < n → j < n → g i = g j → i = j)
    (h : Com n (P.map fun t => (f t.1, g t.2.1, t.2.2))) : Com n P := by
  obtain ⟨L, hL, ht⟩ := h
  refine ⟨fun i j => L (f i) (g j), ⟨fun i j hi hj => hL.lt _ _ (hf i hi) (hg j hj), fun i j k hi hj hk hjk => hL.row _ _ _ (hf i hi) (hg j hj) (hg k hk) (fun e => hjk (gi j k hj hk e)), fun i j k hi hj hk hik => hL.col _ _ _ (hf i hi) (hg j hj) (hf k hk) (fun e => hik (fi i k hi hk e))⟩, fun t h => ?_⟩
  exact ht _ (List.mem_map.2 ⟨t, h, rfl⟩)
/-- Crops renumbered. -/
theorem com_crops {n : Nat} {P : List Tri} {f : Nat → Nat} (hf : ∀ i, i < n → f i < n) (ff : ∀ i, i < n → f (f i) = i) (hP : ∀ t ∈ P, t.2.2 < n)
    (h : Com n (P.map fun t => (t.1, t.2.1, f t.2.2))) : Com n P := by
  obtain ⟨L, hL, ht⟩ := h
  have inj : ∀ i j, i < n → j < n → f i = f j → i = j := fun i j hi hj e => by rw [← ff i hi, ← ff j hj, e]
  refine ⟨fun i j => f (L i j), ⟨fun i j hi hj => hf _ (hL.lt _ _ hi hj), fun i j k hi hj hk hjk e => hL.row _ _ _ hi hj hk hjk (inj _ _ (hL.lt _ _ hi hj) (hL.lt _ _ hi hk) e), fun i j k hi hj hk hik e => hL.col _ _ _ hi hj hk hik (inj _ _ (hL.lt _ _ hi hj) (hL.lt _ _ hk hj) e)⟩, fun t h => ?_⟩
  have := ht _ (List.mem_map.2 ⟨t, h, rfl⟩)
  show f (L t.1 t.2.1) = t.2.2
  rw [this]
  exact ff _ (hP t h)
/-- Rows and crops exchanged. -/
theorem com_turn {n : Nat} {P : List Tri} (hP : ∀ t ∈ P, t.1 < n ∧ t.2.1 < n ∧ t.2.2 < n) (h : Com n (P.map fun t => (t.2.2, t.2.1, t.1))) : Com n P := by
  obtain ⟨L, hL, ht⟩ := h
  have onto : ∀ r c, r < n → c < n → ∃ s, s < n ∧ L s c = r := fun r c hr hc => onto_of_inj (n := n) (f := fun s => L s c) (fun s hs => hL.lt s c hs hc) (fun i j hi hj hij => hL.col i c j hi hc hj hij) r hr
  have hM : ∃ M : Nat → Nat → Nat, ∀ r c, r < n → c < n → M r c < n ∧ L (M r c) c = r := by
    refine ⟨fun r c => if h : r < n ∧ c < n then (onto r c h.1 h.2).choose else 0, fun r c hr hc => ?_⟩
    simp only [dif_pos (And.intro hr hc)]
    exact (onto r c hr hc).choose_spec
  obtain ⟨M, hM⟩ := hM
  refine ⟨M, ⟨fun i j hi hj => (hM i j hi hj).1, fun i j k hi hj hk hjk e => ?_, fun i j k hi hj hk hik e => ?_⟩, fun t h => ?_⟩
  · have h1 := hM i j hi hj
    have h2 := hM i k hi hk
    rw [← e] at h2
    exact hL.row _ j k h1.1 hj hk hjk (by rw [h1.2, h2.2])
  · have h1 := hM i j hi hj
    have h2 := hM k j hk hj
    rw [← e, h1.2] at h2
    exact hik h2.2
  · obtain ⟨t1, t2, t3⟩ := hP t h
    have h1 := hM t.1 t.2.1 t1 t2
    have h2 : L t.2.2 t.2.1 = t.1 := ht _ (List.mem_map.2 ⟨t, h, rfl⟩)
    rcases Nat.lt_or_ge 0 n with _ | _
    · by_cases e : M t.1 t.2.1 = t.2.2
      · exact e
      · exact absurd (by rw [h1.2, h2]) (hL.col _ t.2.1 _ h1.1 t2 t3 e)
    · omega
/-- Along the path of t some pairs are exchanged. -/
theorem swap_path : ∀ (N : Nat) (R : List Nat) (p q : Nat → Nat) (t : Nat), R.length ≤ N → R.Nodup → (∀ i ∈ R, ∀ j ∈ R, p i = p j → i = j) → (∀ i ∈ R, ∀ j ∈ R, q i = q j → i = j) → (∀ i ∈ R, p i ≠ t) →
    ∃ B : Nat → Bool, (∀ i ∈ R, ∀ j ∈ R, (if B i then q i else p i) = (if B j then q j else p j) → i = j) ∧ (∀ i ∈ R, ∀ j ∈ R, (if B i then p i else q i) = (if B j then p j else q j) → i = j) ∧
      (∀ i ∈ R, (if B i then p i else q i) ≠ t) ∧ ∀ i ∈ R, (if B i then q i else p i) = t ∨ ∃ j ∈ R, (if B i then q i else p i) = p j
  | N, R, p, q, t, hN, hnd, hp, hq, ht => by
    by_cases h : ∃ r ∈ R, q r = t
    · obtain ⟨r, hr, hqr⟩ := h
      match N, hN with
      | 0, hN =>
        have : R = [] := List.eq_nil_of_length_eq_zero (by omega)
        rw [this] at hr; cases hr
      | N + 1, hN =>
        have hlen : (R.erase r).length ≤ N := by rw [List.length_erase_of_mem hr]; omega
        have hsub : ∀ i ∈ R.erase r, i ∈ R ∧ i ≠ r := fun i hi => ⟨List.mem_of_mem_erase hi, fun e => by subst e; exact (List.Nodup.not_mem_erase hnd) hi⟩
        have hmem : ∀ i ∈ R, i ≠ r → i ∈ R.erase r := fun i hi hne => (List.mem_erase_of_ne hne).2 hi
        obtain ⟨B, b1, b2, b3, b4⟩ := swap_path N (R.erase r) p q (p r) hlen (hnd.erase r) (fun i hi j hj => hp i (hsub i hi).1 j (hsub j hj).1) (fun i hi j hj => hq i (hsub i hi).1 j (hsub j hj).1) (fun i hi e => (hsub i hi).2 (hp i (hsub i hi).1 r hr e))
        have hP : ∀ i ∈ R, i ≠ r → (if B i then q i else p i) ≠ t := fun i hi hne => by
          rcases b4 i (hmem i hi hne) with e | ⟨j, hj, e⟩
          · rw [e]; exact ht r hr
          · rw [e]; exact ht j (hsub j hj).1
        refine ⟨fun i => if i = r then true else B i, fun i hi j hj => ?_, fun i hi j hj => ?_, fun i hi => ?_, fun i hi => ?_⟩
        · by_cases e1 : i = r
          · by_cases e2 : j = r
            · intro _; rw [e1, e2]
            · simp only [if_pos e1, if_neg e2, if_true]
              intro e
              rw [e1, hqr] at e
              exact absurd e.symm (hP j hj e2)
          · by_cases e2 : j = r
            · simp only [if_neg e1, if_pos e2, if_true]
              intro e
              rw [e2, hqr] at e
              exact absurd e (hP i hi e1)
            · simp only [if_neg e1, if_neg e2]
              exact b1 i (hmem i hi e1) j (hmem j hj e2)
        · by_cases e1 : i = r
          · by_cases e2 : j = r
            · intro _; rw [e1, e2]
            · simp only [if_pos e1, if_neg e2, if_true]
              intro e
              rw [e1] at e
              exact absurd e.symm (b3 j (hmem j hj e2))
          · by_cases e2 : j = r
            · simp only [if_neg e1, if_pos e2, if_true]
              intro e
              rw [e2] at e
              exact absurd e (b3 i (hmem i hi e1))
            · simp only [if_neg e1, if_neg e2]
              exact b2 i (hmem i hi e1) j (hmem j hj e2)
        · by_cases e1 : i = r
          · simp only [if_pos e1, if_true]
            exact ht i hi
          · simp only [if_neg e1]
            split
            · exact ht i hi
            · exact fun e => e1 (hq i hi r hr (by rw [e, hqr]))
        · by_cases e1 : i = r
          · simp only [if_pos e1, if_true]
            exact .inl (by rw [e1]; exact hqr)
          · simp only [if_neg e1]
            rcases b4 i (hmem i hi e1) with e | ⟨j, hj, e⟩
            · exact .inr ⟨r, hr, e⟩
            · exact .inr ⟨j, (hsub j hj).1, e⟩
    · refine ⟨fun _ => false, fun i hi j hj => ?_, fun i hi j hj => ?_, fun i hi e => ?_, fun i hi => ?_⟩
      · simpa using hp i hi j hj
      · simpa using hq i hi j hj
      · exact h ⟨i, hi, by simpa using e⟩
      · exact .inr ⟨i, hi, by simp⟩
end Go.Proofs.YtiodednhadnekaaDoor
