/- Plain laws: fewer crops than the size can always be filled. No condition. -/
import Derived.Test.YtiodednhadnekaaDoorPlain21
namespace Go.Proofs.YtiodednhadnekaaDoor

theorem smet {m : Nat} {S : Nat → Nat → Nat} (hm : 1 ≤ m) (h7 : m + 1 ≤ 7) (hS : Lat m S) : ∃ L, Lat (m + 1) L ∧ (∀ i c, c ≤ i → i < m → L (i + 1) c = S i c) ∧ ∀ r, r ≤ m → L r r = m := by
  obtain ⟨F, h⟩ := stg_all hS (m - 1) (by omega)
  have hlast : ∀ c, c < m → F (m - 1) c = S (m - 1) c := fun c hc => h.a2 (m - 1) c (by omega) (by omega)
  -- the rows with the last place
  obtain ⟨G, hG⟩ : ∃ G : Nat → Nat → Nat, ∀ r c, G r c = if r = m ∧ c = m then m else F (r - 1) c := ⟨_, fun _ _ => rfl⟩
  have g1 : ∀ i c, i < m → c ≤ m → (i ≠ m - 1 ∨ c ≠ m) → G (i + 1) c = F i c := fun i c hi hc h1 => by
    rw [hG, if_neg (by omega), Nat.add_sub_cancel]
  have g2 : G m m = m := by rw [hG, if_pos ⟨rfl, rfl⟩]
  have hv : ∀ i c, i < m → c < m + 1 → (i = m - 1 ∧ c = m ∧ G (i + 1) c = m) ∨ (i = m - 1 ∧ c < m ∧ G (i + 1) c = S i c) ∨ (i < m - 1 ∧ G (i + 1) c = F i c) := fun i c hi hc => by
    by_cases e : i = m - 1
    · by_cases e2 : c = m
      · refine .inl ⟨e, e2, ?_⟩
        rw [e2, show i + 1 = m by omega]; exact g2
      · exact .inr (.inl ⟨e, by omega, by rw [g1 i c hi (by omega) (.inr e2), e]; exact hlast c (by omega)⟩)
    · exact .inr (.inr ⟨by omega, g1 i c hi (by omega) (.inl e)⟩)
  have hle : ∀ i c, i < m - 1 → c ≤ m → F i c ≤ m := fun i c hi hc => by
    by_cases e : c = i + 1
    · rw [e, h.a3 i hi]; exact Nat.le_refl _
    · exact Nat.le_of_lt (h.a4l i c hi hc e)
  have hmem : ∀ r, r ∈ (List.range m).map (· + 1) ↔ ∃ i, i < m ∧ r = i + 1 := fun r => by
    rw [List.mem_map]
    constructor
    · rintro ⟨i, hi, rfl⟩; exact ⟨i, List.mem_range.1 hi, rfl⟩
    · rintro ⟨i, hi, rfl⟩; exact ⟨i, List.mem_range.2 hi, rfl⟩
  have hR : Rect (m + 1) ((List.range m).map (· + 1)) G := by
    refine ⟨List.pairwise_map.2 (List.nodup_range.imp fun {a b} hab e => hab (by simpa using e)), fun r hr => ?_, fun r hr c hc => ?_, fun r hr c d hc hd hcd => ?_, fun r hr t ht c hc hrt => ?_⟩
    · obtain ⟨i, hi, rfl⟩ := (hmem r).1 hr
      omega
    · obtain ⟨i, hi, rfl⟩ := (hmem r).1 hr
      rcases hv i c hi hc with ⟨_, _, e⟩ | ⟨_, h2, e⟩ | ⟨h1, e⟩ <;> rw [e]
      · omega
      · have := hS.lt i c hi h2; omega
      · have := hle i c h1 (by omega); omega
    · obtain ⟨i, hi, rfl⟩ := (hmem r).1 hr
      rcases hv i c hi hc with ⟨a1, a2, a3⟩ | ⟨a1, a2, a3⟩ | ⟨a1, a3⟩ <;> rcases hv i d hi hd with ⟨b1, b2, b3⟩ | ⟨b1, b2, b3⟩ | ⟨b1, b3⟩ <;> rw [a3, b3]
      · omega
      · have := hS.lt i d hi b2; omega
      · omega
      · have := hS.lt i c hi a2; omega
      · exact hS.row i c d hi a2 b2 hcd
      · omega
      · omega
      · omega
      · exact h.a4 i c d a1 (by omega) (by omega) hcd
    · obtain ⟨i, hi, rfl⟩ := (hmem r).1 hr
      obtain ⟨k, hk, rfl⟩ := (hmem t).1 ht
      have hik : i ≠ k := fun e => hrt (by rw [e])
      by_cases hcm : c = m
      · subst hcm
        rcases hv i c hi hc with ⟨a1, a2, a3⟩ | ⟨a1, a2, a3⟩ | ⟨a1, a3⟩ <;> rcases hv k c hk hc with ⟨b1, b2, b3⟩ | ⟨b1, b2, b3⟩ | ⟨b1, b3⟩ <;> rw [a3, b3]
        · omega
        · omega
        · have := h.a4l k c b1 (Nat.le_refl _) (by omega); omega
        · omega
        · omega
        · omega
        · have := h.a4l i c a1 (Nat.le_refl _) (by omega); omega
        · omega
        · exact h.a6 i k a1 b1 hik
      · rw [g1 i c hi (by omega) (.inr hcm), g1 k c hk (by omega) (.inr hcm)]
        exact h.a5 c i k (by omega) hi hk hik
  obtain ⟨L, hL, he⟩ := rect_full (by omega : 1 ≤ m + 1) h7 1 _ G (by simp) hR
  have hrow : ∀ i c, i < m → c < m + 1 → L (i + 1) c = G (i + 1) c := fun i c hi hc => he _ ((hmem _).2 ⟨i, hi, rfl⟩) c hc
  have hlow : ∀ i c, c ≤ i → i < m → L (i + 1) c = S i c := fun i c hc hi => by
    rw [hrow i c hi (by omega), g1 i c hi (by omega) (.inr (by omega))]
    exact h.a2 i c hi hc
  refine ⟨L, hL, hlow, fun r hr => ?_⟩
  rcases Nat.eq_zero_or_pos r with rfl | hr0
  · obtain ⟨s, hs, e⟩ := onto_of_inj (n := m + 1) (f := fun s => L s 0) (fun s hs => hL.lt s 0 hs (by omega)) (fun i j hi hj hij => hL.col i 0 j hi (by omega) hj hij) m (by omega)
    have e : L s 0 = m := e
    rcases Nat.eq_zero_or_pos s with rfl | hs0
    · exact e
    · obtain ⟨i, rfl⟩ : ∃ i, s = i + 1 := ⟨s - 1, by omega⟩
      rw [hlow i 0 (by omega) (by omega)] at e
      have := hS.lt i 0 (by omega) (by omega)
      omega
  · obtain ⟨i, rfl⟩ : ∃ i, r = i + 1 := ⟨r - 1, by omega⟩
    rw [hrow i (i + 1) (by omega) (by omega)]
    by_cases e : i = m - 1
    · rw [show i + 1 = m by omega]; exact g2
    · rw [g1 i (i + 1) (by omega) (by omega) (.inl e)]
      exact h.a3 i (by omega)
/-! ### the places moved below the diagonal -/
theorem idx_inj {X : List Nat} {x y : Nat} (hx : x ∈ X) (hy : y ∈ X) (e : X.idxOf x = X.idxOf y) : x = y := by
  have h1 := List.getElem_idxOf (List.idxOf_lt_length_of_mem hx)
  have h2 := List.getElem_idxOf (List.idxOf_lt_length_of_mem hy)
  rw [← h1, ← h2]
  congr 1
theorem arrange : ∀ (N : Nat) (X Y : List Nat) (Q : List Tri) (a b : Nat), X.Nodup → Y.Nodup → X.length = N → Y.length = N → a ∈ X → b ∈ Y → (∀ t ∈ Q, t.1 ∈ X ∧ t.2.1 ∈ Y ∧ ¬ (t.1 = a ∧ t.2.1 = b)) → Q.length + 2 ≤ N ∨ Q = [] →
    ∃ f g : Nat → Nat, (∀ x ∈ X, f x < N) ∧ (∀ x ∈ X, ∀ y ∈ X, f x = f y → x = y) ∧ (∀ y ∈ Y, g y < N) ∧ (∀ x ∈ Y, ∀ y ∈ Y, g x = g y → x = y) ∧ f a = g b ∧ ∀ t ∈ Q, g t.2.1 < f t.1
  | 0, X, Y, Q, a, b, _, _, hX, _, ha, _, _, _ => by
    rw [List.eq_nil_of_length_eq_zero hX] at ha; cases ha
  | N + 1, X, Y, Q, a, b, hXn, hYn, hX, hY, ha, hb, hQ, hl => by
    by_cases h : ∃ t ∈ Q, t.1 ≠ a
    · obtain ⟨t0, ht0, hta⟩ := h
      have hl : Q.length + 2 ≤ N + 1 := by
        rcases hl with hl | hl
        · exact hl
        · rw [hl] at ht0; cases ht0
      -- an empty column
      have hcol : ∃ y ∈ Y, y ≠ b ∧ ∀ t ∈ Q, t.2.1 ≠ y := by
        refine Classical.byContradiction fun hno => ?_
        have := nodup_sub hYn (m := b :: Q.map fun t => t.2.1) fun y hy => by
          by_cases e : y = b
          · simp [e]
          · by_cases e2 : ∃ t ∈ Q, t.2.1 = y
            · obtain ⟨t, ht, e3⟩ := e2
              exact List.mem_cons_of_mem _ (List.mem_map.2 ⟨t, ht, e3⟩)
            · exact absurd ⟨y, hy, e, fun t ht e3 => e2 ⟨t, ht, e3⟩⟩ hno
        rw [List.length_cons, List.length_map] at this
        omega
      obtain ⟨y, hy, hyb, hyQ⟩ := hcol
      have hr : t0.1 ∈ X := (hQ t0 ht0).1
      have hfl : (Q.filter fun t => !decide (t.1 = t0.1)).length + 1 ≤ Q.length := by
        have h1 := flt_two (fun t : Tri => decide (t.1 = t0.1)) Q
        have h2 : 0 < (Q.filter fun t => decide (t.1 = t0.1)).length := List.length_pos_iff.2 (fun e => by
          have : t0 ∈ Q.filter fun t => decide (t.1 = t0.1) := List.mem_filter.2 ⟨ht0, decide_eq_true rfl⟩
          rw [e] at this; cases this)
        omega
      have hmX : ∀ x, x ∈ X → x ≠ t0.1 → x ∈ X.erase t0.1 := fun x hx hne => (List.mem_erase_of_ne hne).2 hx
      have hmY : ∀ x, x ∈ Y → x ≠ y → x ∈ Y.erase y := fun x hx hne => (List.mem_erase_of_ne hne).2 hx
      obtain ⟨f, g, f1, f2, g1, g2, e1, e2⟩ := arrange N (X.erase t0.1) (Y.erase y) (Q.filter fun t => !decide (t.1 = t0.1)) a b (hXn.erase _) (hYn.erase _) (by rw [List.length_erase_of_mem hr]; omega) (by rw [List.length_erase_of_mem hy]; omega) (hmX a ha (fun e => hta e.symm)) (hmY b hb (fun e => hyb e.symm)) (fun t ht => by
        obtain ⟨h1, h2⟩ := List.mem_filter.1 ht
        rw [Bool.not_eq_true', decide_eq_false_iff_not] at h2
        exact ⟨hmX _ (hQ t h1).1 h2, hmY _ (hQ t h1).2.1 (hyQ t h1), (hQ t h1).2.2⟩) (.inl (by omega))
      refine ⟨fun x => if x = t0.1 then N else f x, fun x => if x = y then N else g x, fun x hx => ?_, fun x hx z hz => ?_, fun x hx => ?_, fun x hx z hz => ?_, ?_, fun t ht => ?_⟩
      · show (if x = t0.1 then N else f x) < N + 1
        split
        · omega
        · have := f1 x (hmX x hx (by assumption)); omega
      · show (if x = t0.1 then N else f x) = (if z = t0.1 then N else f z) → x = z
        by_cases c1 : x = t0.1
        · by_cases c2 : z = t0.1
          · intro _; rw [c1, c2]
          · rw [if_pos c1, if_neg c2]
            have := f1 z (hmX z hz c2); omega
        · by_cases c2 : z = t0.1
          · rw [if_neg c1, if_pos c2]
            have := f1 x (hmX x hx c1); omega
          · rw [if_neg c1, if_neg c2]
            exact f2 x (hmX x hx c1) z (hmX z hz c2)
      · show (if x = y then N else g x) < N + 1
        split
        · omega
        · have := g1 x (hmY x hx (by assumption)); omega
      · show (if x = y then N else g x) = (if z = y then N else g z) → x = z
        by_cases c1 : x = y
        · by_cases c2 : z = y
          · intro _; rw [c1, c2]
          · rw [if_pos c1, if_neg c2]
            have := g1 z (hmY z hz c2); omega
        · by_cases c2 : z = y
          · rw [if_neg c1, if_pos c2]
            have := g1 x (hmY x hx c1); omega
          · rw [if_neg c1, if_neg c2]
            exact g2 x (hmY x hx c1) z (hmY z hz c2)
      · show (if a = t0.1 then N else f a) = if b = y then N else g b
        rw [if_neg (fun e => hta e.symm), if_neg (fun e => hyb e.symm), e1]
      · show (if t.2.1 = y then N else g t.2.1) < if t.1 = t0.1 then N else f t.1
        rw [if_neg (hyQ t ht)]
        by_cases c1 : t.1 = t0.1
        · rw [if_pos c1]
          exact g1 _ (hmY _ (hQ t ht).2.1 (hyQ t ht))
        · rw [if_neg c1]
          exact e2 t (List.mem_filter.2 ⟨ht, by simp [c1]⟩)
    · have hall : ∀ t ∈ Q, t.1 = a := fun t ht => Classical.byContradiction fun hn => h ⟨t, ht, hn⟩
      have hlx : (X.erase a).length = N := by rw [List.length_erase_of_mem ha]; omega
      have hly : (Y.erase b).length = N := by rw [List.length_erase_of_mem hb]; omega
      have hmX : ∀ x, x ∈ X → x ≠ a → x ∈ X.erase a := fun x hx hne => (List.mem_erase_of_ne hne).2 hx
      have hmY : ∀ x, x ∈ Y → x ≠ b → x ∈ Y.erase b := fun x hx hne => (List.mem_erase_of_ne hne).2 hx
      have key : ∀ (Z : List Nat) (d : Nat), (Z.erase d).length = N → (∀ x, x ∈ Z → x ≠ d → x ∈ Z.erase d) → (∀ x ∈ Z, (if x = d then N else (Z.erase d).idxOf x) < N + 1) ∧ (∀ x ∈ Z, ∀ z ∈ Z, (if x = d then N else (Z.erase d).idxOf x) = (if z = d then N else (Z.erase d).idxOf z) → x = z) ∧ ∀ x ∈ Z, x ≠ d → (if x = d then N else (Z.erase d).idxOf x) < N := by
        intro Z d hz hm
        have hlt : ∀ x ∈ Z, x ≠ d → (Z.erase d).idxOf x < N := fun x hx hne => by rw [← hz]; exact List.idxOf_lt_length_of_mem (hm x hx hne)
        refine ⟨fun x hx => ?_, fun x hx z hz => ?_, fun x hx hne => by rw [if_neg hne]; exact hlt x hx hne⟩
        · split
          · omega
          · have := hlt x hx (by assumption); omega
        · by_cases c1 : x = d
          · by_cases c2 : z = d
            · intro _; rw [c1, c2]
            · rw [if_pos c1, if_neg c2]
              have := hlt z hz c2; omega
          · by_cases c2 : z = d
            · rw [if_neg c1, if_pos c2]
              have := hlt x hx c1; omega
            · rw [if_neg c1, if_neg c2]
              exact idx_inj (hm x hx c1) (hm z hz c2)
      obtain ⟨x1, x2, _⟩ := key X a hlx hmX
      obtain ⟨y1, y2, y3⟩ := key Y b hly hmY
      refine ⟨_, _, x1, x2, y1, y2, by simp, fun t ht => ?_⟩
      have e := hall t ht
      have hne : t.2.1 ≠ b := fun e2 => (hQ t ht).2.2 ⟨e, e2⟩
      have := y3 t.2.1 (hQ t ht).2.1 hne
      rw [if_pos e]
      exact this
end Go.Proofs.YtiodednhadnekaaDoor
