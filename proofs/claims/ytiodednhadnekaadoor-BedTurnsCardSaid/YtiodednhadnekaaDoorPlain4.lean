/- Plain laws: what can be filled; how a bed is filled. No condition. -/
import Derived.Test.YtiodednhadnekaaDoorPlain3
namespace Go.Proofs.YtiodednhadnekaaDoor
theorem sumN_le {f g : Nat → Nat} : ∀ {k : Nat}, (∀ i, i < k → f i ≤ g i) → sumN f k ≤ sumN g k
  | 0, _ => Nat.le_refl _
  | _ + 1, h => Nat.add_le_add (sumN_le fun i hi => h i (by omega)) (h _ (by omega))
theorem sumN_lt {f g : Nat → Nat} : ∀ {k : Nat}, (∀ i, i < k → f i ≤ g i) → ∀ {j : Nat}, j < k → f j < g j → sumN f k < sumN g k
  | 0, _, _, hj, _ => absurd hj (by omega)
  | k + 1, h, j, hj, hl => by
    have h1 := sumN_le (f := f) (g := g) (k := k) fun i hi => h i (by omega)
    have h2 := h k (by omega)
    rcases Nat.lt_or_ge j k with h3 | h3
    · have := sumN_lt (k := k) (fun i hi => h i (by omega)) h3 hl
      show sumN f k + f k < sumN g k + g k
      omega
    · obtain rfl : j = k := by omega
      show sumN f j + f j < sumN g j + g j
      omega
theorem sumN_zero {f : Nat → Nat} : ∀ {k : Nat}, (∀ i, i < k → f i = 0) → sumN f k = 0
  | 0, _ => rfl
  | k + 1, h => by rw [sumN, sumN_zero fun i hi => h i (by omega), h k (by omega)]
theorem sumN_ge {f : Nat → Nat} : ∀ {k j : Nat}, j < k → f j ≤ sumN f k
  | k + 1, j, hj => by
    rcases Nat.lt_or_ge j k with h | h
    · exact Nat.le_trans (sumN_ge h) (Nat.le_add_right _ _)
    · obtain rfl : j = k := by omega
      exact Nat.le_add_left _ _
theorem sumN_congr {f g : Nat → Nat} : ∀ {k : Nat}, (∀ i, i < k → f i = g i) → sumN f k = sumN g k
  | 0, _ => rfl
  | k + 1, h => by rw [sumN, sumN, sumN_congr fun i hi => h i (by omega), h k (by omega)]
/-- How many places are empty. -/
def empt (n : Nat) (b : List (List Int)) : Nat := sumN (fun r => sumN (fun c => if gAt b r c < 0 then 1 else 0) n) n
theorem empt_put {n : Nat} {b : List (List Int)} (h : sqShape n b) {r c : Nat} (hr : r < n) (hc : c < n) (h0 : gAt b r c < 0) {x : Int} (hx : 0 ≤ x) : empt n (gset b r c x) < empt n b := by
  unfold empt
  have key : ∀ i j, (if gAt (gset b r c x) i j < 0 then 1 else 0) ≤ (if gAt b i j < 0 then 1 else 0) := fun i j => by
    rw [gAt_gset h hr hc]
    by_cases e : i = r ∧ j = c
    · rw [if_pos e, if_neg (by omega)]; omega
    · rw [if_neg e]; omega
  refine sumN_lt (fun i _ => sumN_le fun j _ => key i j) hr (sumN_lt (fun j _ => key r j) hc ?_)
  have e : gAt (gset b r c x) r c = x := by rw [gAt_gset h hr hc]; exact if_pos ⟨rfl, rfl⟩
  rw [e, if_neg (by omega), if_pos h0]
  omega
theorem can_iff {n : Nat} {b : List (List Int)} : canB n b = true ↔ 0 < cnt n b := by unfold canB; simp
theorem can_not {n : Nat} {b : List (List Int)} : canB n b = false ↔ cnt n b = 0 := by unfold canB; simp
theorem can_full {n : Nat} {b : List (List Int)} (h : IsBed n b) (hall : ∀ r c, r < n → c < n → 0 ≤ gAt b r c) : canB n b = true := by
  rw [can_iff, cnt_full ⟨h.shape, fun r c hr hc => ⟨hall r c hr hc, (h.lo r c hr hc).2⟩, h.once⟩]; omega
theorem can_home {n : Nat} {b : List (List Int)} (h : IsBed n b) (hh : homeless n b = true) : canB n b = false := by
  rw [can_not, cnt_homeless h hh]
theorem can_hit {n : Nat} {b : List (List Int)} (h : IsBed n b) {r c x : Nat} (hr : r < n) (hc : c < n) (h0 : gAt b r c < 0) (hx : x < n) (hh : canB n (gset b r c x) = true) : canB n b = true := by
  rw [can_iff] at hh ⊢
  rw [cnt_branch h.shape hr hc h0]
  exact Nat.lt_of_lt_of_le hh (sumN_ge (f := fun x : Nat => cnt n (gset b r c x)) hx)
theorem can_miss {n : Nat} {b : List (List Int)} (h : IsBed n b) {r c : Nat} (hr : r < n) (hc : c < n) (h0 : gAt b r c < 0) (hh : ∀ x ∈ crops n b r c, canB n (gset b r c (x : Nat)) = false) : canB n b = false := by
  rw [can_not, cnt_branch h.shape hr hc h0]
  refine sumN_zero fun x hx => ?_
  rcases Classical.em (freeP n b r c x) with hf | hf
  · exact can_not.1 (hh x (mem_crops.2 ⟨hx, hf⟩))
  · exact cnt_notfree h.shape hr hc h0 (by omega) hf
/-! ### how a bed is filled: place by place the least crop with which the rest can be sown -/
noncomputable def fillStep (n : Nat) (b : List (List Int)) (r c : Nat) : List (List Int) :=
  if 0 ≤ gAt b r c then b else match (crops n b r c).find? (fun x => canB n (gset b r c (x : Nat))) with | some x => gset b r c (x : Nat) | none => b
noncomputable def fillRow (n : Nat) (b : List (List Int)) (r : Nat) : Nat → List (List Int)
  | 0 => b
  | c + 1 => fillStep n (fillRow n b r c) r c
noncomputable def fillTo (n : Nat) (b : List (List Int)) : Nat → List (List Int)
  | 0 => b
  | r + 1 => fillRow n (fillTo n b r) r n
theorem fillStep_bed {n : Nat} {b : List (List Int)} (h : IsBed n b) {r c : Nat} (hr : r < n) (hc : c < n) : IsBed n (fillStep n b r c) := by
  unfold fillStep
  split
  · exact h
  · split
    · rename_i x hx
      obtain ⟨h1, h2⟩ := mem_crops.1 (List.mem_of_find?_eq_some hx)
      exact h.put hr hc (by omega) (by omega) h2
    · exact h
theorem fillRow_bed {n : Nat} {b : List (List Int)} (h : IsBed n b) {r : Nat} (hr : r < n) : ∀ {c : Nat}, c ≤ n → IsBed n (fillRow n b r c)
  | 0, _ => h
  | _ + 1, hc => fillStep_bed (fillRow_bed h hr (by omega)) hr (by omega)
theorem fillTo_bed {n : Nat} {b : List (List Int)} (h : IsBed n b) : ∀ {r : Nat}, r ≤ n → IsBed n (fillTo n b r)
  | 0, _ => h
  | _ + 1, hr => fillRow_bed (fillTo_bed h (by omega)) (by omega) (Nat.le_refl _)
end Go.Proofs.YtiodednhadnekaaDoor
