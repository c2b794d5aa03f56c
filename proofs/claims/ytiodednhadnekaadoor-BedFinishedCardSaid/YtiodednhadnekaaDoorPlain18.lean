/- Plain laws: if each row that is sown at all has two crops at least, fewer than n crops can be filled. No condition. -/
import Derived.Test.YtiodednhadnekaaDoorPlain17
namespace Go.Proofs.YtiodednhadnekaaDoor

structure Rect (n : Nat) (D : List Nat) (G : Nat → Nat → Nat) : Prop where
  nd : D.Nodup
  mem : ∀ r ∈ D, r < n
  lt : ∀ r ∈ D, ∀ c, c < n → G r c < n
  row : ∀ r ∈ D, ∀ c d, c < n → d < n → c ≠ d → G r c ≠ G r d
  col : ∀ r ∈ D, ∀ t ∈ D, ∀ c, c < n → r ≠ t → G r c ≠ G t c
def putR (G : Nat → Nat → Nat) (ρ : Nat) (g : Nat → Nat) (r c : Nat) : Nat := if r = ρ then g c else G r c
theorem putR_at (G : Nat → Nat → Nat) (ρ : Nat) (g : Nat → Nat) (c : Nat) : putR G ρ g ρ c = g c := by unfold putR; rw [if_pos rfl]
theorem putR_ne {G : Nat → Nat → Nat} {ρ : Nat} {g : Nat → Nat} {r : Nat} (h : r ≠ ρ) (c : Nat) : putR G ρ g r c = G r c := by unfold putR; rw [if_neg h]
theorem Rect.put {n : Nat} {D : List Nat} {G : Nat → Nat → Nat} (h : Rect n D G) {ρ : Nat} (hρ : ρ < n) (hD : ρ ∉ D) {g : Nat → Nat} (g1 : ∀ c, c < n → g c < n) (g2 : ∀ c d, c < n → d < n → c ≠ d → g c ≠ g d) (g3 : ∀ r ∈ D, ∀ c, c < n → G r c ≠ g c) : Rect n (ρ :: D) (putR G ρ g) := by
  have hne : ∀ r ∈ D, r ≠ ρ := fun r hr e => hD (e ▸ hr)
  refine ⟨List.nodup_cons.2 ⟨hD, h.nd⟩, fun r hr => ?_, fun r hr c hc => ?_, fun r hr c d hc hd hcd => ?_, fun r hr t ht c hc hrt => ?_⟩
  · rcases List.mem_cons.1 hr with rfl | hr
    · exact hρ
    · exact h.mem r hr
  · rcases List.mem_cons.1 hr with rfl | hr
    · rw [putR_at]; exact g1 c hc
    · rw [putR_ne (hne r hr)]; exact h.lt r hr c hc
  · rcases List.mem_cons.1 hr with rfl | hr
    · rw [putR_at, putR_at]; exact g2 c d hc hd hcd
    · rw [putR_ne (hne r hr), putR_ne (hne r hr)]; exact h.row r hr c d hc hd hcd
  · rcases List.mem_cons.1 hr with e | hr
    · rcases List.mem_cons.1 ht with e2 | ht
      · exact absurd (e.trans e2.symm) hrt
      · rw [e, putR_at, putR_ne (hne t ht)]; exact (g3 t ht c hc).symm
    · rcases List.mem_cons.1 ht with e2 | ht
      · rw [e2, putR_at, putR_ne (hne r hr)]; exact g3 r hr c hc
      · rw [putR_ne (hne r hr), putR_ne (hne t ht)]; exact h.col r hr t ht c hc hrt
theorem Rect.len {n : Nat} {D : List Nat} {G : Nat → Nat → Nat} (h : Rect n D G) : D.length ≤ n := by
  have := nodup_sub h.nd (m := List.range n) fun r hr => List.mem_range.2 (h.mem r hr)
  rwa [List.length_range] at this
theorem Rect.start {n : Nat} {D : List Nat} {G : Nat → Nat → Nat} (h : Rect n D G) (h1 : 1 ≤ n) (h7 : n ≤ 7) : StartP n (D.map fun r => zs ((List.range n).map (G r))) ∧ ∀ i c, i < D.length → c < n → gAt (D.map fun r => zs ((List.range n).map (G r))) i c = (G (D.getD i 0) c : Int) := by
  have hg : ∀ i c, i < D.length → c < n → gAt (D.map fun r => zs ((List.range n).map (G r))) i c = (G (D.getD i 0) c : Int) := fun i c hi hc => by
    unfold gAt
    have e : (D.map fun r => zs ((List.range n).map (G r))).getD i [] = zs ((List.range n).map (G (D.getD i 0))) := by
      simp [List.getD_eq_getElem?_getD, hi]
    rw [e, zs_get]
    simp [List.getD_eq_getElem?_getD, hc]
  have hm : ∀ i, i < D.length → D.getD i 0 ∈ D := fun i hi => by simp [List.getD_eq_getElem?_getD, hi]
  refine ⟨⟨h1, h7, by rw [List.length_map]; exact h.len, fun r hr => ?_, fun r c hr hc => ?_, fun r c d hr hc hd hcd => ?_, fun r t c hr ht hc hrt => ?_⟩, hg⟩
  · rw [List.length_map] at hr
    simp [List.getD_eq_getElem?_getD, hr, zs_len]
  · rw [List.length_map] at hr
    rw [hg r c hr hc]
    have := h.lt _ (hm r hr) c hc
    omega
  · rw [List.length_map] at hr
    rw [hg r c hr hc, hg r d hr hd]
    have := h.row _ (hm r hr) c d hc hd hcd
    omega
  · rw [List.length_map] at hr ht
    rw [hg r c hr hc, hg t c ht hc]
    have := h.col _ (hm r hr) _ (hm t ht) c hc (fun e => by
      have h2 := h.nd
      rw [List.nodup_iff_pairwise_ne, List.pairwise_iff_getElem] at h2
      simp only [List.getD_eq_getElem?_getD, List.getElem?_eq_getElem hr, List.getElem?_eq_getElem ht, Option.getD_some] at e
      rcases Nat.lt_or_ge r t with h3 | h3
      · exact h2 r t hr ht h3 e
      · exact h2 t r ht hr (by omega) e.symm)
    omega
theorem rect_more {n : Nat} {D : List Nat} {G : Nat → Nat → Nat} (h : Rect n D G) (h1 : 1 ≤ n) (h7 : n ≤ 7) {ρ : Nat} (hρ : ρ < n) (hD : ρ ∉ D) : ∃ g, Rect n (ρ :: D) (putR G ρ g) := by
  obtain ⟨hs, hg⟩ := h.start h1 h7
  have hlt : D.length < n := by
    have := nodup_sub (List.nodup_cons.2 ⟨hD, h.nd⟩) (m := List.range n) fun r hr => by
      rcases List.mem_cons.1 hr with rfl | hr
      · exact List.mem_range.2 hρ
      · exact List.mem_range.2 (h.mem r hr)
    rw [List.length_range, List.length_cons] at this
    omega
  obtain ⟨l, T, hT, _⟩ := rwS_some hs (by rw [List.length_map]; exact hlt)
  have hl : IsRow n _ l := (mem_rwS l).1 (by rw [hT]; exact List.mem_cons_self ..)
  refine ⟨fun c => l.getD c 0, h.put hρ hD hl.2.1 (fun c d hc hd hcd => ?_) (fun r hr c hc e => ?_)⟩
  · rcases Nat.lt_or_ge c d with h3 | h3
    · exact hl.2.2.1 c d h3 hd
    · exact fun e => hl.2.2.1 d c (by omega) hc e.symm
  · obtain ⟨i, hi, rfl⟩ := List.getElem_of_mem hr
    refine hl.2.2.2 i c (by rw [List.length_map]; exact hi) hc ?_
    rw [hg i c hi hc]
    simp only [List.getD_eq_getElem?_getD, List.getElem?_eq_getElem hi, Option.getD_some]
    simp only [List.getD_eq_getElem?_getD] at e
    omega
theorem rect_full {n : Nat} (h1 : 1 ≤ n) (h7 : n ≤ 7) : ∀ (k : Nat) (D : List Nat) (G : Nat → Nat → Nat), D.length + k = n → Rect n D G → ∃ L, Lat n L ∧ ∀ r ∈ D, ∀ c, c < n → L r c = G r c
  | 0, D, G, hk, h => by
    have hall : ∀ r, r < n → r ∈ D := fun r hr => by
      by_cases hm : r ∈ D
      · exact hm
      · have := nodup_sub (List.nodup_cons.2 ⟨hm, h.nd⟩) (m := List.range n) fun x hx => by
          rcases List.mem_cons.1 hx with rfl | hx
          · exact List.mem_range.2 hr
          · exact List.mem_range.2 (h.mem x hx)
        rw [List.length_range, List.length_cons] at this
        omega
    exact ⟨G, ⟨fun i j hi hj => h.lt i (hall i hi) j hj, fun i j k hi hj hk hjk => h.row i (hall i hi) j k hj hk hjk, fun i j k hi hj hk hik => h.col i (hall i hi) k (hall k hk) j hj hik⟩, fun _ _ _ _ => rfl⟩
  | k + 1, D, G, hk, h => by
    have hex : ∃ ρ, ρ < n ∧ ρ ∉ D := by
      refine Classical.byContradiction fun hno => ?_
      have := nodup_sub (List.nodup_range (n := n)) (m := D) fun x hx => Classical.byContradiction fun hm => hno ⟨x, List.mem_range.1 hx, hm⟩
      rw [List.length_range] at this
      omega
    obtain ⟨ρ, hρ, hD⟩ := hex
    obtain ⟨g, hg⟩ := rect_more h h1 h7 hρ hD
    obtain ⟨L, hL, he⟩ := rect_full h1 h7 k (ρ :: D) (putR G ρ g) (by simp; omega) hg
    exact ⟨L, hL, fun r hr c hc => by rw [he r (by simp [hr]) c hc, putR_ne (show r ≠ ρ from fun e => hD (e ▸ hr))]⟩
/-! ### the next row -/
theorem flt_two {α : Type} (p : α → Bool) : ∀ l : List α, (l.filter p).length + (l.filter fun x => !p x).length = l.length
  | [] => rfl
  | a :: l => by
    have := flt_two p l
    rw [List.filter_cons, List.filter_cons]
    cases h : p a <;> simp <;> omega
theorem cols_le : ∀ (I : List Nat) (M : List Tri), I.Nodup → (I.map fun j => (M.filter fun t => decide (t.2.1 = j)).length).sum ≤ M.length
  | [], _, _ => by simp
  | j :: I, M, h => by
    obtain ⟨h1, h2⟩ := List.nodup_cons.1 h
    have ih := cols_le I (M.filter fun t => !decide (t.2.1 = j)) h2
    have h3 := flt_two (fun t : Tri => decide (t.2.1 = j)) M
    have e : (I.map fun i => ((M.filter fun t => !decide (t.2.1 = j)).filter fun t => decide (t.2.1 = i)).length) = I.map fun i => (M.filter fun t => decide (t.2.1 = i)).length := by
      refine List.map_congr_left fun i hi => ?_
      rw [List.filter_filter]
      congr 1
      refine List.filter_congr fun t _ => ?_
      by_cases e : t.2.1 = i
      · have : t.2.1 ≠ j := fun e2 => h1 (by rw [← e2, e]; exact hi)
        simp [e]
        exact fun e3 => this (e.trans e3)
      · simp [e]
    rw [e] at ih
    rw [List.map_cons, List.sum_cons]
    omega
structure Mid (n : Nat) (P : List Tri) (D : List Nat) (G : Nat → Nat → Nat) : Prop where
  rect : Rect n D G
  done : ∀ t ∈ P, t.1 ∈ D → G t.1 t.2.1 = t.2.2
  free : ∀ t ∈ P, t.1 ∉ D → ∀ r ∈ D, G r t.2.1 ≠ t.2.2
theorem hall_no {k v d F X : Nat} (h7 : k ≤ 7) (h1 : 1 ≤ k) (hv : 2 + 2 * d + F ≤ v + k) (hk : k * v ≤ k * d + F) (hX : k ≤ d + X) (h2 : 2 * X ≤ F) : False := by
  rcases (show k = 1 ∨ k = 2 ∨ k = 3 ∨ k = 4 ∨ k = 5 ∨ k = 6 ∨ k = 7 by omega) with rfl | rfl | rfl | rfl | rfl | rfl | rfl <;> omega
end Go.Proofs.YtiodednhadnekaaDoor
