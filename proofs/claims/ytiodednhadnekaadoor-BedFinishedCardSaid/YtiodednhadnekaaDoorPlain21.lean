/- Plain laws: fewer crops than the size can always be filled (Evans' question; the road is Smetaniuk's). No condition. -/
import Derived.Test.YtiodednhadnekaaDoorPlain20
namespace Go.Proofs.YtiodednhadnekaaDoor

/-- The columns up to j are turned to the order m + 1. -/
structure Stg (m : Nat) (S : Nat → Nat → Nat) (j : Nat) (F : Nat → Nat → Nat) : Prop where
  a1 : ∀ i c, i < m → c < m → j < c → F i c = S i c
  a2 : ∀ i c, i < m → c ≤ i → F i c = S i c
  a3 : ∀ i, i < j → F i (i + 1) = m
  a4 : ∀ i c d, i < j → c ≤ m → d ≤ m → c ≠ d → F i c ≠ F i d
  a4l : ∀ i c, i < j → c ≤ m → c ≠ i + 1 → F i c < m
  a5 : ∀ c i k, c < m → i < m → k < m → i ≠ k → F i c ≠ F k c
  a6 : ∀ i k, i < j → k < j → i ≠ k → F i m ≠ F k m
theorem stg_zero {m : Nat} {S : Nat → Nat → Nat} (hS : Lat m S) : Stg m S 0 S :=
  ⟨fun _ _ _ _ _ => rfl, fun _ _ _ _ => rfl, fun i h => by omega, fun i c d h => by omega, fun i c h => by omega, fun c i k hc hi hk hik => hS.col i c k hi hc hk hik, fun i k h => by omega⟩
theorem stg_step {m : Nat} {S : Nat → Nat → Nat} (hS : Lat m S) {j : Nat} (hj : j + 1 < m) {F : Nat → Nat → Nat} (h : Stg m S j F) : ∃ F', Stg m S (j + 1) F' := by
  have hm : ∀ {i}, i ∈ List.range j ↔ i < j := List.mem_range
  obtain ⟨B, b1, b2, b3, b4⟩ := swap_path j (List.range j) (fun i => F i (j + 1)) (fun i => F i m) (S j (j + 1)) (by simp) List.nodup_range
    (fun i hi k hk e => Classical.byContradiction fun hne => h.a5 (j + 1) i k hj (by have := hm.1 hi; omega) (by have := hm.1 hk; omega) hne e)
    (fun i hi k hk e => Classical.byContradiction fun hne => h.a6 i k (hm.1 hi) (hm.1 hk) hne e)
    (fun i hi e => by
      have hi := hm.1 hi
      have e2 := h.a1 j (j + 1) (by omega) hj (by omega)
      exact h.a5 (j + 1) i j hj (by omega) (by omega) (by omega) (by rw [e2]; exact e))
  -- the two columns
  obtain ⟨p, hp⟩ : ∃ p : Nat → Nat, ∀ i, p i = if B i then F i m else F i (j + 1) := ⟨_, fun _ => rfl⟩
  obtain ⟨q, hq⟩ : ∃ q : Nat → Nat, ∀ i, q i = if B i then F i (j + 1) else F i m := ⟨_, fun _ => rfl⟩
  simp only [← hp, ← hq] at b1 b2 b3 b4
  have hSj : ∀ i, i < m → F i (j + 1) = S i (j + 1) := fun i hi => h.a1 i (j + 1) hi hj (by omega)
  have hFj : ∀ c, c < m → F j c = S j c := fun c hc => by
    rcases Nat.lt_or_ge j c with h1 | h1
    · exact h.a1 j c (by omega) hc h1
    · exact h.a2 j c (by omega) h1
  have hpS : ∀ i, i < j → ∃ k, k ≤ j ∧ p i = S k (j + 1) := fun i hi => by
    rcases b4 i (hm.2 hi) with e | ⟨k, hk, e⟩
    · exact ⟨j, Nat.le_refl _, e⟩
    · have hk := hm.1 hk
      exact ⟨k, by omega, by rw [e]; exact hSj k (by omega)⟩
  obtain ⟨F', hF'⟩ : ∃ F' : Nat → Nat → Nat, ∀ i c, F' i c = if c = j + 1 then (if i < j then p i else if i = j then m else F i c) else if c = m then (if i < j then q i else S j (j + 1)) else F i c := ⟨_, fun _ _ => rfl⟩
  have f1 : ∀ i, i < j → F' i (j + 1) = p i := fun i hi => by rw [hF', if_pos rfl, if_pos hi]
  have f2 : F' j (j + 1) = m := by rw [hF', if_pos rfl, if_neg (by omega), if_pos rfl]
  have f3 : ∀ i, j < i → F' i (j + 1) = F i (j + 1) := fun i hi => by rw [hF', if_pos rfl, if_neg (by omega), if_neg (by omega)]
  have f4 : ∀ i, i < j → F' i m = q i := fun i hi => by rw [hF', if_neg (by omega), if_pos rfl, if_pos hi]
  have f5 : F' j m = S j (j + 1) := by rw [hF', if_neg (by omega), if_pos rfl, if_neg (by omega)]
  have f6 : ∀ i c, c ≠ j + 1 → c ≠ m → F' i c = F i c := fun i c h1 h2 => by rw [hF', if_neg h1, if_neg h2]
  -- a row above: at most two places exchanged
  have hsig : ∀ i, i < j → ∃ σ : Nat → Nat, (∀ c, c ≤ m → σ c ≤ m ∧ F' i c = F i (σ c)) ∧ (∀ c d, c ≠ d → σ c ≠ σ d) ∧ ∀ c, c ≠ i + 1 → σ c ≠ i + 1 := fun i hi => by
    cases hB : B i
    · refine ⟨id, fun c hc => ⟨hc, ?_⟩, fun c d h => h, fun c h => h⟩
      show F' i c = F i c
      by_cases e1 : c = j + 1
      · rw [e1, f1 i hi, hp, hB]; rfl
      · by_cases e2 : c = m
        · rw [e2, f4 i hi, hq, hB]; rfl
        · exact f6 i c e1 e2
    · refine ⟨fun c => if c = j + 1 then m else if c = m then j + 1 else c, fun c hc => ?_, fun c d hcd => ?_, fun c hc => ?_⟩
      · by_cases e1 : c = j + 1
        · simp only [if_pos e1]
          exact ⟨Nat.le_refl _, by rw [e1, f1 i hi, hp, hB]; rfl⟩
        · by_cases e2 : c = m
          · simp only [if_neg e1, if_pos e2]
            exact ⟨by omega, by rw [e2, f4 i hi, hq, hB]; rfl⟩
          · simp only [if_neg e1, if_neg e2]
            exact ⟨hc, f6 i c e1 e2⟩
      · show (if c = j + 1 then m else if c = m then j + 1 else c) ≠ if d = j + 1 then m else if d = m then j + 1 else d
        split <;> split <;> (try split) <;> (try split) <;> omega
      · show (if c = j + 1 then m else if c = m then j + 1 else c) ≠ i + 1
        split
        · omega
        · split <;> omega
  refine ⟨F', ⟨fun i c hi hc hjc => ?_, fun i c hi hc => ?_, fun i hi => ?_, fun i c d hi hc hd hcd => ?_, fun i c hi hc hci => ?_, fun c i k hc hi hk hik => ?_, fun i k hi hk hik => ?_⟩⟩
  · rw [f6 i c (by omega) (by omega)]
    exact h.a1 i c hi hc (by omega)
  · by_cases e : c = j + 1
    · rw [e, f3 i (by omega), hSj i hi]
    · rw [f6 i c e (by omega)]
      exact h.a2 i c hi hc
  · by_cases e : i = j
    · rw [e]; exact f2
    · rw [f6 i (i + 1) (by omega) (by omega)]
      exact h.a3 i (by omega)
  · by_cases e : i = j
    · subst e
      have hv : ∀ c, c ≤ m → (c = i + 1 ∧ F' i c = m) ∨ (c = m ∧ F' i c = S i (i + 1)) ∨ (c ≠ i + 1 ∧ c < m ∧ F' i c = S i c) := fun c hc => by
        by_cases e1 : c = i + 1
        · exact .inl ⟨e1, by rw [e1]; exact f2⟩
        · by_cases e2 : c = m
          · exact .inr (.inl ⟨e2, by rw [e2]; exact f5⟩)
          · exact .inr (.inr ⟨e1, by omega, by rw [f6 i c e1 e2]; exact hFj c (by omega)⟩)
      have him : i < m := by omega
      rcases hv c hc with ⟨c1, c2⟩ | ⟨c1, c2⟩ | ⟨c1, c2, c3⟩ <;> rcases hv d hd with ⟨d1, d2⟩ | ⟨d1, d2⟩ | ⟨d1, d2, d3⟩
      · omega
      · rw [c2, d2]; have := hS.lt i (i + 1) him hj; omega
      · rw [c2, d3]; have := hS.lt i d him d2; omega
      · rw [c2, d2]; have := hS.lt i (i + 1) him hj; omega
      · omega
      · rw [c2, d3]; exact hS.row i (i + 1) d him hj d2 (fun e => d1 e.symm)
      · rw [c3, d2]; have := hS.lt i c him c2; omega
      · rw [c3, d2]; exact hS.row i c (i + 1) him c2 hj c1
      · rw [c3, d3]; exact hS.row i c d him c2 d2 hcd
    · obtain ⟨σ, s1, s2, _⟩ := hsig i (by omega)
      rw [(s1 c hc).2, (s1 d hd).2]
      exact h.a4 i _ _ (by omega) (s1 c hc).1 (s1 d hd).1 (s2 c d hcd)
  · by_cases e : i = j
    · subst e
      by_cases e2 : c = m
      · rw [e2, f5]; exact hS.lt i (i + 1) (by omega) hj
      · rw [f6 i c hci e2, hFj c (by omega)]
        exact hS.lt i c (by omega) (by omega)
    · obtain ⟨σ, s1, _, s3⟩ := hsig i (by omega)
      rw [(s1 c hc).2]
      exact h.a4l i _ (by omega) (s1 c hc).1 (s3 c hci)
  · by_cases e : c = j + 1
    · subst e
      have hv : ∀ i, i < m → (i < j ∧ F' i (j + 1) = p i) ∨ (i = j ∧ F' i (j + 1) = m) ∨ (j < i ∧ F' i (j + 1) = S i (j + 1)) := fun i hi => by
        rcases Nat.lt_or_ge i j with h1 | h1
        · exact .inl ⟨h1, f1 i h1⟩
        · by_cases h2 : i = j
          · exact .inr (.inl ⟨h2, by rw [h2]; exact f2⟩)
          · exact .inr (.inr ⟨by omega, by rw [f3 i (by omega)]; exact hSj i hi⟩)
      have hpl : ∀ i, i < j → p i < m := fun i hi => by
        obtain ⟨k, hk, e⟩ := hpS i hi
        rw [e]; exact hS.lt k (j + 1) (by omega) hj
      have hps : ∀ i k, i < j → j < k → k < m → p i ≠ S k (j + 1) := fun i k hi hk hkm => by
        obtain ⟨l, hl, e⟩ := hpS i hi
        rw [e]; exact hS.col l (j + 1) k (by omega) hj hkm (by omega)
      rcases hv i hi with ⟨c1, c2⟩ | ⟨c1, c2⟩ | ⟨c1, c2⟩ <;> rcases hv k hk with ⟨d1, d2⟩ | ⟨d1, d2⟩ | ⟨d1, d2⟩
      · rw [c2, d2]; exact fun e => hik (b1 i (hm.2 c1) k (hm.2 d1) e)
      · rw [c2, d2]; have := hpl i c1; omega
      · rw [c2, d2]; exact hps i k c1 d1 hk
      · rw [c2, d2]; have := hpl k d1; omega
      · omega
      · rw [c2, d2]; have := hS.lt k (j + 1) hk hj; omega
      · rw [c2, d2]; exact (hps k i d1 c1 hi).symm
      · rw [c2, d2]; have := hS.lt i (j + 1) hi hj; omega
      · rw [c2, d2]; exact hS.col i (j + 1) k hi hj hk hik
    · rw [f6 i c e (by omega), f6 k c e (by omega)]
      exact h.a5 c i k hc hi hk hik
  · by_cases e1 : i = j
    · by_cases e2 : k = j
      · omega
      · rw [e1, f5, f4 k (by omega)]
        exact (b3 k (hm.2 (by omega))).symm
    · by_cases e2 : k = j
      · rw [e2, f5, f4 i (by omega)]
        exact b3 i (hm.2 (by omega))
      · rw [f4 i (by omega), f4 k (by omega)]
        exact fun e => hik (b2 i (hm.2 (by omega)) k (hm.2 (by omega)) e)
theorem stg_all {m : Nat} {S : Nat → Nat → Nat} (hS : Lat m S) : ∀ j, j < m → ∃ F, Stg m S j F
  | 0, _ => ⟨S, stg_zero hS⟩
  | j + 1, hj => by
    obtain ⟨F, hF⟩ := stg_all hS j (by omega)
    exact stg_step hS hj hF
end Go.Proofs.YtiodednhadnekaaDoor
