/- Plain laws: a bed that is turned or moved keeps the number of its squares. No condition. -/
import Derived.Test.YtiodednhadnekaaDoorPlain12
namespace Go.Proofs.YtiodednhadnekaaDoor

def sqOk (b : List (List Int)) (i j c d : Nat) : Bool := decide (gAt b i c = gAt b j d) && decide (gAt b i d = gAt b j c)
def sqQ (n : Nat) (b : List (List Int)) : List (Nat × Nat × Nat × Nat) := (List.range n).flatMap fun i => (List.range i).flatMap fun j => (List.range n).flatMap fun c => (List.range c).flatMap fun d => if sqOk b i j c d = true then [(i, j, c, d)] else []
theorem flat_len {α : Type} (f : Nat → List α) (n : Nat) : ((List.range n).flatMap f).length = sumN (fun i => (f i).length) n := by
  rw [sumN_list, List.length_flatMap]
theorem sqQ_len (n : Nat) (b : List (List Int)) : (sqQ n b).length = sqN b n := by
  unfold sqQ sqN
  rw [flat_len]
  refine sumN_congr fun i _ => ?_
  rw [flat_len]
  refine sumN_congr fun j _ => ?_
  rw [flat_len]
  refine sumN_congr fun c _ => ?_
  rw [flat_len]
  refine sumN_congr fun d _ => ?_
  unfold sqAt sqOk
  by_cases h : gAt b i c = gAt b j d ∧ gAt b i d = gAt b j c
  · rw [if_pos h, if_pos (by simp [h.1, h.2])]; rfl
  · rw [if_neg h, if_neg]
    · rfl
    · intro h2
      rw [Bool.and_eq_true, decide_eq_true_eq, decide_eq_true_eq] at h2
      exact h h2
theorem mem_sqQ {n : Nat} {b : List (List Int)} {i j c d : Nat} : (i, j, c, d) ∈ sqQ n b ↔ i < n ∧ j < i ∧ c < n ∧ d < c ∧ gAt b i c = gAt b j d ∧ gAt b i d = gAt b j c := by
  unfold sqQ
  simp only [List.mem_flatMap, List.mem_range]
  constructor
  · rintro ⟨i', hi, j', hj, c', hc, d', hd, h⟩
    split at h
    · rename_i hok
      simp only [List.mem_singleton, Prod.mk.injEq] at h
      obtain ⟨rfl, rfl, rfl, rfl⟩ := h
      unfold sqOk at hok
      rw [Bool.and_eq_true, decide_eq_true_eq, decide_eq_true_eq] at hok
      exact ⟨hi, hj, hc, hd, hok⟩
    · simp at h
  · rintro ⟨hi, hj, hc, hd, h1, h2⟩
    exact ⟨i, hi, j, hj, c, hc, d, hd, by rw [if_pos (by unfold sqOk; simp [h1, h2])]; simp⟩
theorem nodup_sqQ (n : Nat) (b : List (List Int)) : (sqQ n b).Nodup := by
  have key : ∀ {α : Type} (f : Nat → List α) (k : α → Nat), (∀ a, ∀ x ∈ f a, k x = a) → ∀ a a', a ≠ a' → ∀ x ∈ f a, x ∉ f a' := fun f k h a a' hne x hx hx' => hne ((h a x hx).symm.trans (h a' x hx'))
  have k4 : ∀ i j c, ∀ d, ∀ x ∈ (if sqOk b i j c d = true then [(i, j, c, d)] else []), x = (i, j, c, d) := fun i j c d x hx => by
    split at hx
    · simpa using hx
    · simp at hx
  have k3 : ∀ i j c, ∀ x ∈ ((List.range c).flatMap fun d => if sqOk b i j c d = true then [(i, j, c, d)] else []), x.1 = i ∧ x.2.1 = j ∧ x.2.2.1 = c := fun i j c x hx => by
    obtain ⟨d, _, hx⟩ := List.mem_flatMap.1 hx
    rw [k4 i j c d x hx]; exact ⟨rfl, rfl, rfl⟩
  have k2 : ∀ i j, ∀ x ∈ ((List.range n).flatMap fun c => (List.range c).flatMap fun d => if sqOk b i j c d = true then [(i, j, c, d)] else []), x.1 = i ∧ x.2.1 = j := fun i j x hx => by
    obtain ⟨c, _, hx⟩ := List.mem_flatMap.1 hx
    have := k3 i j c x hx
    exact ⟨this.1, this.2.1⟩
  have k1 : ∀ i, ∀ x ∈ ((List.range i).flatMap fun j => (List.range n).flatMap fun c => (List.range c).flatMap fun d => if sqOk b i j c d = true then [(i, j, c, d)] else []), x.1 = i := fun i x hx => by
    obtain ⟨j, _, hx⟩ := List.mem_flatMap.1 hx
    exact (k2 i j x hx).1
  unfold sqQ
  refine nodup_flat List.nodup_range (fun i => nodup_flat List.nodup_range (fun j => nodup_flat List.nodup_range (fun c => nodup_flat List.nodup_range (fun d => ?_) ?_) ?_) ?_) ?_
  · split <;> simp
  · exact key _ (fun x => x.2.2.2) fun d x hx => by rw [k4 i j c d x hx]
  · exact key _ (fun x => x.2.2.1) fun c x hx => (k3 i j c x hx).2.2
  · exact key _ (fun x => x.2.1) fun j x hx => (k2 i j x hx).2
  · exact key _ (fun x => x.1) fun i x hx => k1 i x hx
section
variable {n : Nat} {b : List (List Int)}
/-- A map of squares, one to one, shows that there are no fewer. -/
theorem sq_le {x : List (List Int)} (φ : Nat × Nat × Nat × Nat → Nat × Nat × Nat × Nat) (h1 : ∀ q ∈ sqQ n b, φ q ∈ sqQ n x) (h2 : ∀ q ∈ sqQ n b, ∀ q' ∈ sqQ n b, φ q = φ q' → q = q') : sqN b n ≤ sqN x n := by
  rw [← sqQ_len, ← sqQ_len]
  have hnd : ((sqQ n b).map φ).Nodup := by
    refine List.pairwise_map.2 (List.Pairwise.imp_of_mem (fun {l l'} hl hl' hne e => hne ?_) (nodup_sqQ n b))
    exact h2 l hl l' hl' e
  have := nodup_sub hnd (m := sqQ n x) (fun l hl => by
    obtain ⟨l', hl', rfl⟩ := List.mem_map.1 hl
    exact h1 l' hl')
  simpa using this
theorem sq_tc_le : sqN b n ≤ sqN (tcL b n) n := by
  refine sq_le (fun q => (q.2.2.1, q.2.2.2, q.1, q.2.1)) (fun ⟨i, j, c, d⟩ hq => ?_) (fun ⟨i, j, c, d⟩ _ ⟨i', j', c', d'⟩ _ e => ?_)
  · obtain ⟨hi, hj, hc, hd, h1, h2⟩ := mem_sqQ.1 hq
    refine mem_sqQ.2 ⟨hc, hd, hi, hj, ?_, ?_⟩
    · rw [tcL_at hi hc, tcL_at (show j < n by omega) (show d < n by omega)]; exact h1
    · rw [tcL_at (show j < n by omega) hc, tcL_at hi (show d < n by omega)]; exact h2.symm
  · simp only [Prod.mk.injEq] at e ⊢
    omega
theorem sq_tc (hb : IsFull n b) : sqN (tcL b n) n = sqN b n := by
  have h1 := sq_tc_le (n := n) (b := b)
  have h2 := sq_tc_le (n := n) (b := tcL b n)
  rw [tc_tc hb] at h2
  omega
theorem sq_tx_le (hb : IsFull n b) : sqN b n ≤ sqN (txL b n) n := by
  have hcr : ∀ {i c : Nat}, i < n → c < n → ((gAt b i c).toNat : Int) = gAt b i c ∧ (gAt b i c).toNat < n := fun hi hc => by have := hb.lo _ _ hi hc; omega
  have hne : ∀ {i c d : Nat}, i < n → c < n → d < n → c ≠ d → (gAt b i c).toNat ≠ (gAt b i d).toNat := fun hi hc hd hcd e => by
    have h1 := (hcr hi hc).1
    have h2 := (hcr hi hd).1
    exact hb.once.1 _ _ _ hi hc hd hcd (by omega) (by omega)
  refine sq_le (fun q => (max (gAt b q.1 q.2.2.1).toNat (gAt b q.1 q.2.2.2).toNat, min (gAt b q.1 q.2.2.1).toNat (gAt b q.1 q.2.2.2).toNat, q.1, q.2.1)) (fun ⟨i, j, c, d⟩ hq => ?_) (fun ⟨i, j, c, d⟩ hq ⟨i', j', c', d'⟩ hq' e => ?_)
  · obtain ⟨hi, hj, hc, hd, h1, h2⟩ := mem_sqQ.1 hq
    have hjn : j < n := by omega
    have hdn : d < n := by omega
    obtain ⟨x1, x2⟩ := hcr hi hc
    obtain ⟨y1, y2⟩ := hcr hi hdn
    have hxy := hne hi hc hdn (by omega)
    show (max (gAt b i c).toNat (gAt b i d).toNat, min (gAt b i c).toNat (gAt b i d).toNat, i, j) ∈ _
    generalize (gAt b i c).toNat = X at *
    generalize (gAt b i d).toNat = Y at *
    have a1 := tx_at hb hi hc x2 x1.symm
    have a2 := tx_at hb hi hdn y2 y1.symm
    have a3 := tx_at hb hjn hdn x2 (by rw [← h1, x1])
    have a4 := tx_at hb hjn hc y2 (by rw [← h2, y1])
    rcases Nat.lt_or_ge X Y with h | h
    · rw [Nat.max_eq_right (by omega), Nat.min_eq_left (by omega)]
      exact mem_sqQ.2 ⟨y2, h, hi, hj, by rw [a2, a3], by rw [a4, a1]⟩
    · rw [Nat.max_eq_left h, Nat.min_eq_right h]
      exact mem_sqQ.2 ⟨x2, by omega, hi, hj, by rw [a1, a4], by rw [a3, a2]⟩
  · obtain ⟨hi, hj, hc, hd, h1, h2⟩ := mem_sqQ.1 hq
    obtain ⟨hi', hj', hc', hd', h1', h2'⟩ := mem_sqQ.1 hq'
    simp only [Prod.mk.injEq] at e
    obtain ⟨e1, e2, rfl, rfl⟩ := e
    have hdn : d < n := by omega
    have hdn' : d' < n := by omega
    have hxy := hne hi hc hdn (by omega)
    have hq1 : (gAt b i c).toNat = (gAt b i c').toNat → c = c' := fun e => by
      rcases Decidable.em (c = c') with h | h
      · exact h
      · exact absurd e (hne hi hc hc' h)
    have hq2 : (gAt b i d).toNat = (gAt b i d').toNat → d = d' := fun e => by
      rcases Decidable.em (d = d') with h | h
      · exact h
      · exact absurd e (hne hi hdn hdn' h)
    have hq3 : (gAt b i c).toNat = (gAt b i d').toNat → c = d' := fun e => by
      rcases Decidable.em (c = d') with h | h
      · exact h
      · exact absurd e (hne hi hc hdn' h)
    have hq4 : (gAt b i d).toNat = (gAt b i c').toNat → d = c' := fun e => by
      rcases Decidable.em (d = c') with h | h
      · exact h
      · exact absurd e (hne hi hdn hc' h)
    generalize (gAt b i c).toNat = X at *
    generalize (gAt b i d).toNat = Y at *
    generalize (gAt b i c').toNat = X' at *
    generalize (gAt b i d').toNat = Y' at *
    have hcase : (X = X' ∧ Y = Y') ∨ (X = Y' ∧ Y = X') := by
      omega
    rcases hcase with ⟨h3, h4⟩ | ⟨h3, h4⟩
    · rw [hq1 h3, hq2 h4]
    · have := hq3 h3
      have := hq4 h4
      omega
theorem sq_tx (hb : IsFull n b) : sqN (txL b n) n = sqN b n := by
  have h1 := sq_tx_le hb
  have h2 := sq_tx_le (tx_full hb)
  have h3 := sq_tx_le (tx_full (tx_full hb))
  rw [tx_tx_tx hb] at h3
  omega
theorem sq_mv_le (R C : Nat) : sqN b n ≤ sqN (mvL b n R C) n := by
  refine sq_le (fun q => (max ((q.1 + back n R) % n) ((q.2.1 + back n R) % n), min ((q.1 + back n R) % n) ((q.2.1 + back n R) % n), q.2.2.1, q.2.2.2)) (fun ⟨i, j, c, d⟩ hq => ?_) (fun ⟨i, j, c, d⟩ hq ⟨i', j', c', d'⟩ hq' e => ?_)
  · obtain ⟨hi, hj, hc, hd, h1, h2⟩ := mem_sqQ.1 hq
    have hjn : j < n := by omega
    have hdn : d < n := by omega
    show (max ((i + back n R) % n) ((j + back n R) % n), min ((i + back n R) % n) ((j + back n R) % n), c, d) ∈ _
    have i1 := mod_lt' (R := back n R) hi
    have j1 := mod_lt' (R := back n R) hjn
    have hij : (i + back n R) % n ≠ (j + back n R) % n := fun e => by have := mod_inj hi hjn e; omega
    have i2 := back_mod (k := R) hi
    have j2 := back_mod (k := R) hjn
    generalize (i + back n R) % n = I at *
    generalize (j + back n R) % n = J at *
    have a1 : ∀ {c}, c < n → gAt (mvL b n R C) I c = (gAt b i c + C) % n := fun hc => by rw [mvL_at i1 hc, i2]
    have a2 : ∀ {c}, c < n → gAt (mvL b n R C) J c = (gAt b j c + C) % n := fun hc => by rw [mvL_at j1 hc, j2]
    rcases Nat.lt_or_ge I J with h | h
    · rw [Nat.max_eq_right (by omega), Nat.min_eq_left (by omega)]
      exact mem_sqQ.2 ⟨j1, h, hc, hd, by rw [a2 hc, a1 hdn, h2], by rw [a2 hdn, a1 hc, h1]⟩
    · rw [Nat.max_eq_left h, Nat.min_eq_right h]
      exact mem_sqQ.2 ⟨i1, by omega, hc, hd, by rw [a1 hc, a2 hdn, h1], by rw [a1 hdn, a2 hc, h2]⟩
  · obtain ⟨hi, hj, hc, hd, _, _⟩ := mem_sqQ.1 hq
    obtain ⟨hi', hj', hc', hd', _, _⟩ := mem_sqQ.1 hq'
    simp only [Prod.mk.injEq] at e
    obtain ⟨e1, e2, rfl, rfl⟩ := e
    have q1 : (i + back n R) % n = (i' + back n R) % n → i = i' := fun e => mod_inj hi hi' e
    have q2 : (j + back n R) % n = (j' + back n R) % n → j = j' := fun e => mod_inj (by omega) (by omega) e
    have q3 : (i + back n R) % n = (j' + back n R) % n → i = j' := fun e => mod_inj hi (by omega) e
    have q4 : (j + back n R) % n = (i' + back n R) % n → j = i' := fun e => mod_inj (by omega) hi' e
    generalize (i + back n R) % n = I at *
    generalize (j + back n R) % n = J at *
    generalize (i' + back n R) % n = I' at *
    generalize (j' + back n R) % n = J' at *
    have hcase : (I = I' ∧ J = J') ∨ (I = J' ∧ J = I') := by
      omega
    rcases hcase with ⟨h3, h4⟩ | ⟨h3, h4⟩
    · rw [q1 h3, q2 h4]
    · have := q3 h3
      have := q4 h4
      omega
theorem sq_mv (hb : IsFull n b) (R C : Nat) : sqN (mvL b n R C) n = sqN b n := by
  have h1 := sq_mv_le (n := n) (b := b) R C
  have h2 := sq_mv_le (n := n) (b := mvL b n R C) (back n R) (back n C)
  rw [mv_mv hb] at h2
  omega
/-- What is kept. -/
def Same3 (b x : List (List Int)) : Prop := trN x = trN b ∧ trE x = 0 ∧ sqC x = sqC b ∧ mateE x = mateE b
theorem same3 {x : List (List Int)} (h1 : 1 ≤ n) (h7 : n ≤ 7) (hb : IsFull n b) (hx : IsFull n x) (ht : (trans x n).length = (trans b n).length) (hs : sqN x n = sqN b n) (hm : HasMate n x ↔ HasMate n b) : Same3 b x := by
  have fb := fullB_of h1 h7 hb
  have fx := fullB_of h1 h7 hx
  have lb := hb.shape.1
  have lx := hx.shape.1
  refine ⟨?_, ?_, ?_, ?_⟩
  · unfold trN; rw [if_pos fb, if_pos fx, lb, lx, ht]
  · unfold trE; rw [if_pos fx]
  · unfold sqC; rw [if_pos fb, if_pos fx, lb, lx, hs]
  · rw [mateE_is h1 h7 hb, mateE_is h1 h7 hx]
    by_cases h5 : n ≤ 5
    · rw [if_pos h5, if_pos h5]
      by_cases h : HasMate n b
      · rw [if_pos h, if_pos (hm.2 h)]
      · rw [if_neg h, if_neg (fun h2 => h (hm.1 h2))]
    · rw [if_neg h5, if_neg h5]
theorem same3_tc (h1 : 1 ≤ n) (h7 : n ≤ 7) (hb : IsFull n b) : Same3 b (tcL b n) := same3 h1 h7 hb (tc_full hb) (trans_tc hb) (sq_tc hb) (mate_tc_iff hb)
theorem same3_tx (h1 : 1 ≤ n) (h7 : n ≤ 7) (hb : IsFull n b) : Same3 b (txL b n) := same3 h1 h7 hb (tx_full hb) (trans_tx hb) (sq_tx hb) (mate_tx_iff hb)
theorem same3_mv (h1 : 1 ≤ n) (h7 : n ≤ 7) (hb : IsFull n b) (R C : Nat) : Same3 b (mvL b n R C) := same3 h1 h7 hb (mv_full hb R C) (trans_mv hb R C) (sq_mv hb R C) (mate_mv_iff hb R C)
end
end Go.Proofs.YtiodednhadnekaaDoor
