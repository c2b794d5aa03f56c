/- Plain laws: a bed with fewer crops than its size can be filled. No condition. -/
import Derived.Test.YtiodednhadnekaaDoorPlain22
import Derived.Test.YtiodednhadnekaaDoorPlain16
namespace Go.Proofs.YtiodednhadnekaaDoor

def swp (a b x : Nat) : Nat := if x = a then b else if x = b then a else x
theorem swp_lt {n a b x : Nat} (ha : a < n) (hb : b < n) (hx : x < n) : swp a b x < n := by
  unfold swp
  split
  · exact hb
  · split <;> assumption
theorem swp_swp (a b x : Nat) : swp a b (swp a b x) = x := by
  unfold swp
  by_cases h1 : x = a
  · subst h1
    by_cases h2 : b = x
    · simp [h2]
    · simp [h2]
  · by_cases h2 : x = b
    · subst h2; simp [h1]
    · simp [h1, h2]
theorem swp_at (a b : Nat) : swp a b a = b := by unfold swp; rw [if_pos rfl]
theorem swp_inj {a b x y : Nat} (h : swp a b x = swp a b y) : x = y := by rw [← swp_swp a b x, ← swp_swp a b y, h]
theorem evans : ∀ (n : Nat), 1 ≤ n → n ≤ 7 → ∀ P : List Tri, Par n P → P.length < n → Com n P := by
  intro n
  induction n using Nat.strongRecOn with
  | _ n IH =>
    intro h1 h7 P hP hlen
    by_cases h : ∃ z ∈ P, ∀ u ∈ P, u.2.2 = z.2.2 → u = z
    · obtain ⟨z, hz, honce⟩ := h
      have hn2 : 2 ≤ n := by
        have : 0 < P.length := List.length_pos_iff.2 (fun e => by rw [e] at hz; cases hz)
        omega
      obtain ⟨m, rfl⟩ : ∃ m, n = m + 1 := ⟨n - 1, by omega⟩
      obtain ⟨z1, z2, z3⟩ := hP.1 z hz
      obtain ⟨Q, hQ⟩ : ∃ Q, Q = P.filter fun t => decide (t ≠ z) := ⟨_, rfl⟩
      have hQm : ∀ t, t ∈ Q ↔ t ∈ P ∧ t ≠ z := fun t => by rw [hQ, List.mem_filter, decide_eq_true_eq]
      have hQP : Par (m + 1) Q := ⟨fun t ht => hP.1 t ((hQm t).1 ht).1, by rw [hQ]; exact hP.2.filter _⟩
      have hQl : Q.length + 1 ≤ P.length := by
        have h3 := nodup_sub (l := z :: Q) (List.nodup_cons.2 ⟨fun e => ((hQm z).1 e).2 rfl, hQP.nodup⟩) (m := P) fun t ht => by
          rcases List.mem_cons.1 ht with rfl | ht
          · exact hz
          · exact ((hQm t).1 ht).1
        exact h3
      obtain ⟨f, g, f1, f2, g1, g2, e1, e2⟩ := arrange (m + 1) (List.range (m + 1)) (List.range (m + 1)) Q z.1 z.2.1 List.nodup_range List.nodup_range List.length_range List.length_range (List.mem_range.2 z1) (List.mem_range.2 z2) (fun t ht => by
        obtain ⟨t1, t2⟩ := (hQm t).1 ht
        obtain ⟨a, b, _⟩ := hP.1 t t1
        exact ⟨List.mem_range.2 a, List.mem_range.2 b, fun e => t2 (hP.eq t1 hz (.inl e))⟩) (.inl (by omega))
      simp only [List.mem_range] at f1 f2 g1 g2
      obtain ⟨σ, hσ⟩ : ∃ σ, σ = swp z.2.2 m := ⟨_, rfl⟩
      have s1 : ∀ x, x < m + 1 → σ x < m + 1 := fun x hx => by rw [hσ]; exact swp_lt z3 (by omega) hx
      have s2 : ∀ x, x < m + 1 → σ (σ x) = x := fun x _ => by rw [hσ]; exact swp_swp _ _ x
      have s3 : ∀ x y, σ x = σ y → x = y := fun x y e => by rw [hσ] at e; exact swp_inj e
      have s4 : σ z.2.2 = m := by rw [hσ]; exact swp_at _ _
      have hsQ : ∀ t ∈ Q, σ t.2.2 < m := fun t ht => by
        obtain ⟨t1, t2⟩ := (hQm t).1 ht
        have h3 := s1 _ (hP.1 t t1).2.2
        have h4 : σ t.2.2 ≠ m := fun e => t2 (honce t t1 (s3 _ _ (by rw [e, s4])))
        omega
      have hP3 : Par m (Q.map fun t => (f t.1 - 1, g t.2.1, σ t.2.2)) := hQP.map _ (fun t ht => by
        obtain ⟨t1, t2⟩ := (hQm t).1 ht
        obtain ⟨a, b, _⟩ := hP.1 t t1
        have h3 := e2 t ht
        have h4 := f1 _ a
        have h5 := hsQ t ht
        exact ⟨by show f t.1 - 1 < m; omega, by show g t.2.1 < m; omega, h5⟩) (fun a ha b hb hc => by
        have ha1 := hQP.1 a ha
        have hb1 := hQP.1 b hb
        have ha2 := e2 a ha
        have hb2 := e2 b hb
        rcases hc with ⟨c1, c2⟩ | ⟨c1, c2⟩ | ⟨c1, c2⟩
        · have c1 : f a.1 - 1 = f b.1 - 1 := c1
          exact .inl ⟨f2 _ ha1.1 _ hb1.1 (by omega), g2 _ ha1.2.1 _ hb1.2.1 c2⟩
        · have c1 : f a.1 - 1 = f b.1 - 1 := c1
          exact .inr (.inl ⟨f2 _ ha1.1 _ hb1.1 (by omega), s3 _ _ c2⟩)
        · exact .inr (.inr ⟨g2 _ ha1.2.1 _ hb1.2.1 c1, s3 _ _ c2⟩))
      obtain ⟨S, hS, hSQ⟩ := IH m (by omega) (by omega) (by omega) _ hP3 (by rw [List.length_map]; omega)
      obtain ⟨L, hL, hlow, hdiag⟩ := smet (by omega) h7 hS
      refine com_move (fun i hi => f1 i hi) (fun i hi => g1 i hi) (fun i j hi hj => f2 i hi j hj) (fun i j hi hj => g2 i hi j hj) ?_
      refine com_crops (f := σ) s1 s2 (fun t ht => ?_) ?_
      · obtain ⟨u, hu, rfl⟩ := List.mem_map.1 ht
        exact (hP.1 u hu).2.2
      · refine ⟨L, hL, fun t ht => ?_⟩
        rw [List.map_map] at ht
        obtain ⟨u, hu, rfl⟩ := List.mem_map.1 ht
        show L (f u.1) (g u.2.1) = σ u.2.2
        by_cases e : u = z
        · rw [e, s4, e1]
          have := g1 _ z2
          exact hdiag _ (by omega)
        · have hq := (hQm u).2 ⟨hu, e⟩
          have h3 := e2 u hq
          have h4 := f1 _ (hP.1 u hu).1
          have h5 : S (f u.1 - 1) (g u.2.1) = σ u.2.2 := hSQ _ (List.mem_map.2 ⟨u, hq, rfl⟩)
          have h6 := hlow (f u.1 - 1) (g u.2.1) (by omega) (by omega)
          rw [show f u.1 - 1 + 1 = f u.1 by omega] at h6
          rw [h6, h5]
    · refine com_turn hP.1 (few_com h1 h7 (hP.map _ (fun t ht => ?_) (fun a _ b _ hc => ?_)) (by rw [List.length_map]; exact hlen) (fun t ht => ?_))
      · obtain ⟨a, b, c⟩ := hP.1 t ht
        exact ⟨c, b, a⟩
      · rcases hc with ⟨c1, c2⟩ | ⟨c1, c2⟩ | ⟨c1, c2⟩
        · exact .inr (.inr ⟨c2, c1⟩)
        · exact .inr (.inl ⟨c2, c1⟩)
        · exact .inl ⟨c2, c1⟩
      · obtain ⟨a, ha, rfl⟩ := List.mem_map.1 ht
        have hex : ∃ u ∈ P, u.2.2 = a.2.2 ∧ u ≠ a := Classical.byContradiction fun hno => h ⟨a, ha, fun u hu e => Classical.byContradiction fun hne => hno ⟨u, hu, e, hne⟩⟩
        obtain ⟨u, hu, e, hne⟩ := hex
        refine ⟨_, List.mem_map.2 ⟨u, hu, rfl⟩, e, fun e2 => hne ?_⟩
        have e3 : (u.2.2, u.2.1, u.1) = (a.2.2, a.2.1, a.1) := e2
        injection e3 with e4 e5
        injection e5 with e6 e7
        exact Prod.ext e7 (Prod.ext e6 e4)
/-! ### beds -/
def triR (b : List (List Int)) (r : Nat) (n : Nat) : List Tri := ((List.range n).filter fun c => decide (0 ≤ gAt b r c)).map fun c => (r, c, (gAt b r c).toNat)
def triB (n : Nat) (b : List (List Int)) (R : Nat) : List Tri := (List.range R).flatMap fun r => triR b r n
theorem triR_len (b : List (List Int)) (r : Nat) : ∀ n, (triR b r n).length = sw1 b r n
  | 0 => rfl
  | n + 1 => by
    have h := triR_len b r n
    unfold triR at h ⊢
    rw [List.length_map] at h ⊢
    rw [List.range_succ, List.filter_append, List.length_append, h]
    show _ = sw1 b r n + _
    congr 1
    by_cases h0 : 0 ≤ gAt b r n <;> simp [h0]
theorem triB_len (n : Nat) (b : List (List Int)) : ∀ R, (triB n b R).length = sw n b R
  | 0 => rfl
  | R + 1 => by
    have h := triB_len n b R
    unfold triB at h ⊢
    rw [List.range_succ, List.flatMap_append, List.length_append, h]
    simp only [List.flatMap_cons, List.flatMap_nil, List.append_nil]
    rw [triR_len]
    rfl
theorem mem_triB {n : Nat} {b : List (List Int)} {t : Tri} : t ∈ triB n b n ↔ t.1 < n ∧ t.2.1 < n ∧ 0 ≤ gAt b t.1 t.2.1 ∧ t.2.2 = (gAt b t.1 t.2.1).toNat := by
  unfold triB triR
  rw [List.mem_flatMap]
  simp only [List.mem_map, List.mem_filter, List.mem_range, decide_eq_true_eq]
  constructor
  · rintro ⟨r, hr, c, ⟨hc, h0⟩, rfl⟩
    exact ⟨hr, hc, h0, rfl⟩
  · rintro ⟨hr, hc, h0, e⟩
    exact ⟨t.1, hr, t.2.1, ⟨hc, h0⟩, by rw [← e]⟩
theorem evans_bed {n : Nat} {b : List (List Int)} (h1 : 1 ≤ n) (h7 : n ≤ 7) (hb : IsBed n b) (hs : sw n b n < n) : canB n b = true := by
  have hne : ∀ a ∈ triB n b n, ∀ c ∈ triB n b n, a ≠ c → ¬ Cl a c := fun a ha c hc hac hcl => by
    obtain ⟨a1, a2, a3, a4⟩ := mem_triB.1 ha
    obtain ⟨c1, c2, c3, c4⟩ := mem_triB.1 hc
    rcases hcl with ⟨e1, e2⟩ | ⟨e1, e2⟩ | ⟨e1, e2⟩
    · exact hac (Prod.ext e1 (Prod.ext e2 (by rw [a4, c4, e1, e2])))
    · refine Classical.byContradiction fun _ => hb.once.1 a.1 a.2.1 c.2.1 a1 a2 c2 (fun e3 => ?_) a3 ?_
      · exact hac (Prod.ext e1 (Prod.ext e3 e2))
      · rw [a4, c4, ← e1] at e2
        rw [← e1] at c3
        omega
    · refine Classical.byContradiction fun _ => hb.once.2 a.1 c.1 a.2.1 a1 c1 a2 (fun e3 => ?_) a3 ?_
      · exact hac (Prod.ext e3 (Prod.ext e1 e2))
      · rw [a4, c4, ← e1] at e2
        rw [← e1] at c3
        omega
  have hP : Par n (triB n b n) := by
    refine ⟨fun t ht => ?_, ?_⟩
    · obtain ⟨t1, t2, t3, t4⟩ := mem_triB.1 ht
      have := (hb.lo t.1 t.2.1 t1 t2).2
      exact ⟨t1, t2, by omega⟩
    · have hnd : (triB n b n).Pairwise fun a c => a ≠ c := by
        unfold triB
        rw [List.pairwise_flatMap]
        refine ⟨fun r _ => ?_, ?_⟩
        · unfold triR
          exact List.pairwise_map.2 ((List.nodup_range.filter _).imp fun {x y} hxy e => hxy (by injection e with _ e; injection e))
        · refine List.nodup_range.imp fun {x y} hxy a ha c hc e => hxy ?_
          unfold triR at ha hc
          obtain ⟨_, _, rfl⟩ := List.mem_map.1 ha
          obtain ⟨_, _, rfl⟩ := List.mem_map.1 hc
          injection e
      exact hnd.imp_of_mem fun {a c} ha hc hac => hne a ha c hc hac
  obtain ⟨L, hL, hLP⟩ := evans n h1 h7 _ hP (by rw [triB_len]; exact hs)
  rw [can_iff, cnt_pos]
  have hg : ∀ r c, r < n → c < n → gAt ((List.range n).map fun r => zs ((List.range n).map (L r))) r c = (L r c : Int) := fun r c hr hc => by
    unfold gAt
    have e : ((List.range n).map fun r => zs ((List.range n).map (L r))).getD r [] = zs ((List.range n).map (L r)) := by
      simp [List.getD_eq_getElem?_getD, hr]
    rw [e, zs_get]
    simp [List.getD_eq_getElem?_getD, hc]
  refine ⟨(List.range n).map fun r => zs ((List.range n).map (L r)), ⟨⟨by simp, fun r hr => ?_⟩, fun r c hr hc => ?_, ?_⟩, fun r c hr hc h0 => ?_⟩
  · simp [List.getD_eq_getElem?_getD, hr, zs_len]
  · rw [hg r c hr hc]
    have := hL.lt r c hr hc
    omega
  · refine ⟨fun r c d hr hc hd hcd _ => ?_, fun r s c hr hs hc hrs _ => ?_⟩
    · rw [hg r c hr hc, hg r d hr hd]
      have := hL.row r c d hr hc hd hcd
      omega
    · rw [hg r c hr hc, hg s c hs hc]
      have := hL.col r c s hr hc hs hrs
      omega
  · rw [hg r c hr hc]
    have := hLP (r, c, (gAt b r c).toNat) (mem_triB.2 ⟨hr, hc, h0, rfl⟩)
    have : L r c = (gAt b r c).toNat := this
    omega
end Go.Proofs.YtiodednhadnekaaDoor
