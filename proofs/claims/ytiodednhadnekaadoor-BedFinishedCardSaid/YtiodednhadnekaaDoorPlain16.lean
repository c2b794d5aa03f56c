/- Plain laws: what Fill returns is full and goes on with the bed. No condition. -/
import Derived.Test.YtiodednhadnekaaDoorA3
namespace Go.Proofs.YtiodednhadnekaaDoor

theorem sum_pos_ex (f : Nat → Nat) : ∀ L : List Nat, 0 < (L.map f).sum → ∃ x ∈ L, 0 < f x
  | [], h => by simp at h
  | x :: L, h => by
    by_cases hx : 0 < f x
    · exact ⟨x, by simp, hx⟩
    · rw [List.map_cons, List.sum_cons] at h
      obtain ⟨y, hy, h2⟩ := sum_pos_ex f L (by omega)
      exact ⟨y, by simp [hy], h2⟩
theorem fillStep_good {n : Nat} {g : List (List Int)} (h : IsBed n g) {r c : Nat} (hr : r < n) (hc : c < n) (hcan : canB n g = true) :
    canB n (fillStep n g r c) = true ∧ 0 ≤ gAt (fillStep n g r c) r c ∧ ∀ i j, 0 ≤ gAt g i j → gAt (fillStep n g r c) i j = gAt g i j := by
  by_cases h0 : 0 ≤ gAt g r c
  · rw [fillStep_keep h0]; exact ⟨hcan, h0, fun _ _ _ => rfl⟩
  · have h1 : gAt g r c < 0 := by omega
    have hp := can_iff.1 hcan
    rw [cnt_crops h.shape hr hc h1] at hp
    obtain ⟨x, hx, hx2⟩ := sum_pos_ex _ _ hp
    unfold fillStep
    rw [if_neg h0]
    cases hf : (crops n g r c).find? (fun x => canB n (gset g r c (x : Nat))) with
    | none =>
      have := List.find?_eq_none.1 hf x hx
      exact absurd (can_iff.2 hx2) this
    | some y =>
      have hy := List.find?_some hf
      refine ⟨hy, ?_, fun i j hij => ?_⟩
      · show 0 ≤ gAt (gset g r c (y : Nat)) r c
        rw [gAt_gset h.shape hr hc, if_pos ⟨rfl, rfl⟩]; omega
      · show gAt (gset g r c (y : Nat)) i j = gAt g i j
        rw [gAt_gset h.shape hr hc, if_neg]
        rintro ⟨rfl, rfl⟩
        exact h0 hij
theorem fillRow_good {n : Nat} {g : List (List Int)} (h : IsBed n g) {r : Nat} (hr : r < n) (hcan : canB n g = true) : ∀ c, c ≤ n →
    canB n (fillRow n g r c) = true ∧ (∀ j, j < c → 0 ≤ gAt (fillRow n g r c) r j) ∧ ∀ i j, 0 ≤ gAt g i j → gAt (fillRow n g r c) i j = gAt g i j
  | 0, _ => ⟨hcan, fun j hj => by omega, fun _ _ _ => rfl⟩
  | c + 1, hc => by
    obtain ⟨h1, h2, h3⟩ := fillRow_good h hr hcan c (by omega)
    obtain ⟨g1, g2, g3⟩ := fillStep_good (fillRow_bed h hr (by omega : c ≤ n)) hr (by omega : c < n) h1
    refine ⟨g1, fun j hj => ?_, fun i j hij => ?_⟩
    · rcases Nat.lt_or_ge j c with hlt | hge
      · show 0 ≤ gAt (fillStep n (fillRow n g r c) r c) r j
        rw [g3 r j (h2 j hlt)]; exact h2 j hlt
      · obtain rfl : j = c := by omega
        exact g2
    · show gAt (fillStep n (fillRow n g r c) r c) i j = _
      rw [g3 i j (by rw [h3 i j hij]; exact hij), h3 i j hij]
theorem fillTo_good {n : Nat} {b : List (List Int)} (h : IsBed n b) (hcan : canB n b = true) : ∀ r, r ≤ n →
    canB n (fillTo n b r) = true ∧ (∀ i j, i < r → j < n → 0 ≤ gAt (fillTo n b r) i j) ∧ ∀ i j, 0 ≤ gAt b i j → gAt (fillTo n b r) i j = gAt b i j
  | 0, _ => ⟨hcan, fun i j hi => by omega, fun _ _ _ => rfl⟩
  | r + 1, hr => by
    obtain ⟨h1, h2, h3⟩ := fillTo_good h hcan r (by omega)
    obtain ⟨g1, g2, g3⟩ := fillRow_good (fillTo_bed h (by omega : r ≤ n)) (by omega : r < n) h1 n (Nat.le_refl _)
    refine ⟨g1, fun i j hi hj => ?_, fun i j hij => ?_⟩
    · rcases Nat.lt_or_ge i r with hlt | hge
      · show 0 ≤ gAt (fillRow n (fillTo n b r) r n) i j
        rw [g3 i j (h2 i j hlt hj)]; exact h2 i j hlt hj
      · obtain rfl : i = r := by omega
        exact g2 j hj
    · show gAt (fillRow n (fillTo n b r) r n) i j = _
      rw [g3 i j (by rw [h3 i j hij]; exact hij), h3 i j hij]
theorem fill_full {n : Nat} {b : List (List Int)} (h : IsBed n b) (hcan : canB n b = true) : IsFull n (fillTo n b n) ∧ ∀ r c, 0 ≤ gAt b r c → gAt (fillTo n b n) r c = gAt b r c := by
  obtain ⟨_, h2, h3⟩ := fillTo_good h hcan n (Nat.le_refl _)
  have hb := fillTo_bed h (Nat.le_refl n)
  exact ⟨⟨hb.shape, fun r c hr hc => ⟨h2 r c hr hc, (hb.lo r c hr hc).2⟩, hb.once⟩, h3⟩
/-- The places that are sown. -/
def sw1 (b : List (List Int)) (r : Nat) : Nat → Nat
  | 0 => 0
  | c + 1 => sw1 b r c + if 0 ≤ gAt b r c then 1 else 0
def sw (n : Nat) (b : List (List Int)) : Nat → Nat
  | 0 => 0
  | r + 1 => sw n b r + sw1 b r n
theorem sw1_le (b : List (List Int)) (r : Nat) : ∀ c, sw1 b r c ≤ c
  | 0 => Nat.le_refl _
  | c + 1 => by
    have := sw1_le b r c
    unfold sw1
    split <;> omega
theorem sw_le (n : Nat) (b : List (List Int)) : ∀ r, sw n b r ≤ r * n
  | 0 => by simp [sw]
  | r + 1 => by
    have h1 := sw_le n b r
    have h2 := sw1_le b r n
    unfold sw
    rw [Nat.succ_mul]
    omega
end Go.Proofs.YtiodednhadnekaaDoor
