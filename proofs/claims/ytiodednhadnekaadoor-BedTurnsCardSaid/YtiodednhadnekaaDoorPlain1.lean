namespace Go.Proofs.YtiodednhadnekaaDoor
/-! ### lists over an alphabet -/
def allL {α : Type} : Nat → List α → List (List α)
  | 0, _ => [[]]
  | k + 1, as => as.flatMap fun a => (allL k as).map (a :: ·)
theorem mem_allL {α : Type} (as : List α) : ∀ (k : Nat) (l : List α), l ∈ allL k as ↔ l.length = k ∧ ∀ x ∈ l, x ∈ as := by
  intro k
  induction k with
  | zero => intro l; simp only [allL, List.mem_singleton]; exact ⟨fun h => by subst h; simp, fun h => List.eq_nil_of_length_eq_zero h.1⟩
  | succ k ih =>
    intro l
    simp only [allL, List.mem_flatMap, List.mem_map]
    constructor
    · rintro ⟨a, ha, t, ht, rfl⟩
      obtain ⟨h1, h2⟩ := (ih t).1 ht
      refine ⟨by simp [h1], fun x hx => ?_⟩
      rcases List.mem_cons.1 hx with rfl | hx
      · exact ha
      · exact h2 x hx
    · rintro ⟨h1, h2⟩
      match l, h1 with
      | a :: t, h1 => exact ⟨a, h2 a (by simp), t, (ih t).2 ⟨by simpa using h1, fun x hx => h2 x (by simp [hx])⟩, rfl⟩
theorem nodup_flatMap_cons {α : Type} {as : List α} {L : List (List α)} (ha : as.Nodup) (hL : L.Nodup) : (as.flatMap fun a => L.map (a :: ·)).Nodup := by
  induction as with
  | nil => simp
  | cons a as ih =>
    rw [List.flatMap_cons, List.nodup_append]
    obtain ⟨h1, h2⟩ := List.nodup_cons.1 ha
    refine ⟨?_, ih h2, ?_⟩
    · exact List.Pairwise.map _ (fun x y hxy e => hxy (by injection e)) hL
    · intro x hx y hy e
      obtain ⟨t, _, rfl⟩ := List.mem_map.1 hx
      obtain ⟨b, hb, hy⟩ := List.mem_flatMap.1 hy
      obtain ⟨t', _, rfl⟩ := List.mem_map.1 hy
      injection e with e1 e2
      subst e1
      exact h1 hb
theorem nodup_allL {α : Type} {as : List α} (h : as.Nodup) : ∀ k, (allL k as).Nodup
  | 0 => by simp [allL]
  | k + 1 => nodup_flatMap_cons h (nodup_allL h k)
theorem len_allL {α : Type} (as : List α) : ∀ k, (allL k as).length = as.length ^ k
  | 0 => by simp [allL]
  | k + 1 => by simp [allL, len_allL as k, List.length_flatMap, Nat.pow_succ, Nat.mul_comm, List.map_const', List.sum_replicate_nat]
def ints (n : Nat) : List Int := (List.range n).map Int.ofNat
theorem mem_ints {n : Nat} {x : Int} : x ∈ ints n ↔ 0 ≤ x ∧ x < n := by
  simp only [ints, List.mem_map, List.mem_range]
  constructor
  · rintro ⟨a, h, rfl⟩; simp; omega
  · rintro ⟨h1, h2⟩; exact ⟨x.toNat, by omega, by simp; omega⟩
theorem nodup_ints (n : Nat) : (ints n).Nodup := List.Pairwise.map _ (fun _ _ h e => h (Int.ofNat.inj e)) List.nodup_range

/-! ### grids -/
def gAt (b : List (List Int)) (r c : Nat) : Int := (b.getD r []).getD c 0
def gset (b : List (List Int)) (r c : Nat) (x : Int) : List (List Int) := b.set r ((b.getD r []).set c x)
def sqShape (n : Nat) (b : List (List Int)) : Prop := b.length = n ∧ ∀ r, r < n → (b.getD r []).length = n
theorem sq_get {n : Nat} {b : List (List Int)} (h : sqShape n b) {l : List Int} (hl : l ∈ b) : l.length = n := by
  obtain ⟨i, hi, rfl⟩ := List.getElem_of_mem hl
  have := h.2 i (by rw [← h.1]; exact hi)
  simpa [List.getD_eq_getElem?_getD, hi] using this
theorem gset_shape {n : Nat} {b : List (List Int)} (h : sqShape n b) (r c : Nat) (x : Int) : sqShape n (gset b r c x) := by
  refine ⟨by unfold gset; rw [List.length_set]; exact h.1, fun i hi => ?_⟩
  unfold gset
  by_cases e : i = r
  · subst e
    have : i < b.length := by rw [h.1]; exact hi
    rw [List.getD_eq_getElem?_getD, List.getElem?_set_self this, Option.getD_some, List.length_set]
    exact h.2 i hi
  · rw [List.getD_eq_getElem?_getD, List.getElem?_set_ne (fun h => e h.symm), ← List.getD_eq_getElem?_getD]
    exact h.2 i hi
theorem gAt_gset {n : Nat} {b : List (List Int)} (h : sqShape n b) {r c : Nat} (hr : r < n) (hc : c < n) (x : Int) (i j : Nat) : gAt (gset b r c x) i j = if i = r ∧ j = c then x else gAt b i j := by
  unfold gAt gset
  by_cases e : i = r
  · subst e
    have h1 : i < b.length := by rw [h.1]; exact hr
    rw [List.getD_eq_getElem?_getD, List.getD_eq_getElem?_getD (l := b.set _ _), List.getElem?_set_self h1, Option.getD_some]
    have h2 : c < (b.getD i []).length := by rw [h.2 i hr]; exact hc
    by_cases e2 : j = c
    · subst e2
      rw [List.getElem?_set_self h2]; simp
    · rw [List.getElem?_set_ne (fun h => e2 h.symm), if_neg (fun h => e2 h.2), ← List.getD_eq_getElem?_getD]
  · rw [if_neg (fun h => e h.1), List.getD_eq_getElem?_getD (l := b.set _ _), List.getElem?_set_ne (fun h => e h.symm), ← List.getD_eq_getElem?_getD]
theorem grid_ext {n : Nat} {a b : List (List Int)} (ha : sqShape n a) (hb : sqShape n b) (h : ∀ r c, r < n → c < n → gAt a r c = gAt b r c) : a = b := by
  apply List.ext_getElem (by rw [ha.1, hb.1])
  intro r h1 h2
  have hr : r < n := by rw [← ha.1]; exact h1
  rw [show a[r] = a.getD r [] by simp [List.getD_eq_getElem?_getD, h1], show b[r] = b.getD r [] by simp [List.getD_eq_getElem?_getD, h2]]
  have hl1 := ha.2 r hr
  have hl2 := hb.2 r hr
  have hh := h r
  unfold gAt at hh
  generalize a.getD r [] = x at *
  generalize b.getD r [] = y at *
  apply List.ext_getElem (by rw [hl1, hl2])
  intro c h3 h4
  have := hh c hr (by rw [← hl1]; exact h3)
  simpa [List.getD_eq_getElem?_getD, h3, h4] using this
theorem gset_same {n : Nat} {b : List (List Int)} (h : sqShape n b) {r c : Nat} (hr : r < n) (hc : c < n) : gset b r c (gAt b r c) = b :=
  grid_ext (gset_shape h r c _) h fun i j _ _ => by
    rw [gAt_gset h hr hc]
    split
    · rename_i e; rw [e.1, e.2]
    · rfl
theorem gset_gset {n : Nat} {b : List (List Int)} (h : sqShape n b) {r c : Nat} (hr : r < n) (hc : c < n) (x y : Int) : gset (gset b r c x) r c y = gset b r c y :=
  grid_ext (gset_shape (gset_shape h r c _) r c _) (gset_shape h r c _) fun i j _ _ => by
    rw [gAt_gset (gset_shape h r c x) hr hc, gAt_gset h hr hc, gAt_gset h hr hc]
    split <;> rfl
/-- Nothing is twice in a row or in a column. -/
def NoTwice (n : Nat) (b : List (List Int)) : Prop :=
  (∀ r c d, r < n → c < n → d < n → c ≠ d → 0 ≤ gAt b r c → gAt b r c ≠ gAt b r d) ∧ (∀ r s c, r < n → s < n → c < n → r ≠ s → 0 ≤ gAt b r c → gAt b r c ≠ gAt b s c)
/-- A bed. -/
structure IsBed (n : Nat) (b : List (List Int)) : Prop where
  shape : sqShape n b
  lo : ∀ r c, r < n → c < n → -1 ≤ gAt b r c ∧ gAt b r c < n
  once : NoTwice n b
def freeP (n : Nat) (b : List (List Int)) (r c : Nat) (x : Int) : Prop := ∀ i, i < n → gAt b r i ≠ x ∧ gAt b i c ≠ x
theorem IsBed.put {n : Nat} {b : List (List Int)} (h : IsBed n b) {r c : Nat} (hr : r < n) (hc : c < n) {x : Int} (hx : 0 ≤ x) (hxn : x < n) (hf : freeP n b r c x) : IsBed n (gset b r c x) := by
  refine ⟨gset_shape h.shape _ _ _, fun i j hi hj => ?_, ⟨fun i j d hi hj hd hne h0 => ?_, fun i s j hi hs hj hne h0 => ?_⟩⟩
  · rw [gAt_gset h.shape hr hc]; split
    · omega
    · exact h.lo i j hi hj
  · rw [gAt_gset h.shape hr hc] at h0 ⊢
    rw [gAt_gset h.shape hr hc]
    by_cases e1 : i = r ∧ j = c
    · rw [if_pos e1]
      obtain ⟨rfl, rfl⟩ := e1
      rw [if_neg (fun e => hne e.2.symm)]
      exact fun e => (hf d hd).1 e.symm
    · rw [if_neg e1] at h0 ⊢
      by_cases e2 : i = r ∧ d = c
      · rw [if_pos e2]
        obtain ⟨rfl, rfl⟩ := e2
        exact (hf j hj).1
      · rw [if_neg e2]
        exact h.once.1 i j d hi hj hd hne h0
  · rw [gAt_gset h.shape hr hc] at h0 ⊢
    rw [gAt_gset h.shape hr hc]
    by_cases e1 : i = r ∧ j = c
    · rw [if_pos e1]
      obtain ⟨rfl, rfl⟩ := e1
      rw [if_neg (fun e => hne e.1.symm)]
      exact fun e => (hf s hs).2 e.symm
    · rw [if_neg e1] at h0 ⊢
      by_cases e2 : s = r ∧ j = c
      · rw [if_pos e2]
        obtain ⟨rfl, rfl⟩ := e2
        exact (hf i hi).2
      · rw [if_neg e2]
        exact h.once.2 i s j hi hs hj hne h0

/-! ### full beds, and in how many ways a bed can be filled -/
open Classical in
noncomputable def allSq (n : Nat) : List (List (List Int)) := (allL n (allL n (ints n))).filter fun s => decide (NoTwice n s)
structure IsFull (n : Nat) (s : List (List Int)) : Prop where
  shape : sqShape n s
  lo : ∀ r c, r < n → c < n → 0 ≤ gAt s r c ∧ gAt s r c < n
  once : NoTwice n s
theorem mem_allSq {n : Nat} {s : List (List Int)} : s ∈ allSq n ↔ IsFull n s := by
  unfold allSq
  rw [List.mem_filter, mem_allL]
  simp only [decide_eq_true_eq]
  constructor
  · rintro ⟨⟨h1, h2⟩, h3⟩
    have hs : ∀ r, r < n → s.getD r [] ∈ s := fun r hr => by
      have : r < s.length := by omega
      simp [List.getD_eq_getElem?_getD, this]
    refine ⟨⟨h1, fun r hr => ((mem_allL _ _ _).1 (h2 _ (hs r hr))).1⟩, fun r c hr hc => ?_, h3⟩
    obtain ⟨h4, h5⟩ := (mem_allL _ _ _).1 (h2 _ (hs r hr))
    have hc' : c < (s.getD r []).length := by omega
    have : gAt s r c ∈ s.getD r [] := by unfold gAt; rw [List.getD_eq_getElem?_getD (l := s.getD r []), List.getElem?_eq_getElem hc']; simp
    exact mem_ints.1 (h5 _ this)
  · intro h
    refine ⟨⟨h.shape.1, fun l hl => (mem_allL _ _ _).2 ⟨sq_get h.shape hl, fun x hx => ?_⟩⟩, h.once⟩
    obtain ⟨r, hr, rfl⟩ := List.getElem_of_mem hl
    obtain ⟨c, hc, rfl⟩ := List.getElem_of_mem hx
    have hr' : r < n := by rw [← h.shape.1]; exact hr
    have hc' : c < n := by rw [← sq_get h.shape hl]; exact hc
    have := h.lo r c hr' hc'
    apply mem_ints.2
    unfold gAt at this
    simpa [List.getD_eq_getElem?_getD, hr, hc] using this
theorem nodup_allSq (n : Nat) : (allSq n).Nodup := (nodup_allL (nodup_allL (nodup_ints n) n) n).filter _
def ExtP (n : Nat) (b s : List (List Int)) : Prop := ∀ r c, r < n → c < n → 0 ≤ gAt b r c → gAt s r c = gAt b r c
open Classical in
noncomputable def cnt (n : Nat) (b : List (List Int)) : Nat := (allSq n).countP fun s => decide (ExtP n b s)
open Classical in
noncomputable def canB (n : Nat) (b : List (List Int)) : Bool := decide (0 < cnt n b)
theorem cnt_pos {n : Nat} {b : List (List Int)} : 0 < cnt n b ↔ ∃ s, IsFull n s ∧ ExtP n b s := by
  unfold cnt
  rw [List.countP_pos_iff]
  simp only [mem_allSq, decide_eq_true_eq]
theorem cnt_le (n : Nat) (b : List (List Int)) : cnt n b ≤ (n ^ n) ^ n := by
  unfold cnt
  refine Nat.le_trans List.countP_le_length ?_
  unfold allSq
  refine Nat.le_trans (List.length_filter_le _ _) ?_
  rw [len_allL, len_allL]
  simp [ints]
theorem IsFull.bed {n : Nat} {s : List (List Int)} (h : IsFull n s) : IsBed n s := ⟨h.shape, fun r c hr hc => by have := h.lo r c hr hc; omega, h.once⟩
theorem countP_one {α : Type} {l : List α} (hn : l.Nodup) {a : α} (ha : a ∈ l) {p : α → Bool} (hp : ∀ x ∈ l, p x = true ↔ x = a) : l.countP p = 1 := by
  induction l with
  | nil => cases ha
  | cons x l ih =>
    obtain ⟨h1, h2⟩ := List.nodup_cons.1 hn
    rw [List.countP_cons]
    rcases List.mem_cons.1 ha with e | ha
    · subst e
      have : l.countP p = 0 := by
        rw [List.countP_eq_zero]
        intro y hy hpy
        have := (hp y (by simp [hy])).1 hpy
        subst this
        exact h1 hy
      rw [this, if_pos ((hp a (by simp)).2 rfl)]
    · rw [ih h2 ha (fun y hy => hp y (by simp [hy])), if_neg (fun h => ?_)]
      have := (hp x (by simp)).1 h
      subst this
      exact h1 ha
open Classical in
theorem cnt_full {n : Nat} {b : List (List Int)} (h : IsFull n b) : cnt n b = 1 := by
  unfold cnt
  refine countP_one (nodup_allSq n) (mem_allSq.2 h) fun s hs => ?_
  have hs := mem_allSq.1 hs
  rw [decide_eq_true_eq]
  constructor
  · intro he
    exact grid_ext hs.shape h.shape fun r c hr hc => he r c hr hc (h.lo r c hr hc).1
  · rintro rfl r c _ _ _; rfl
/-- Sums over the crops. -/
def sumN (f : Nat → Nat) : Nat → Nat
  | 0 => 0
  | k + 1 => sumN f k + f k
theorem countP_split {α : Type} (l : List α) (p : α → Bool) (q : Nat → α → Bool) (k : Nat) (h : ∀ a ∈ l, (p a = true → ∃ i, i < k ∧ q i a = true) ∧ (∀ i, i < k → q i a = true → p a = true ∧ ∀ j, j < k → q j a = true → j = i)) :
    l.countP p = sumN (fun i => l.countP (q i)) k := by
  induction l with
  | nil => simp; induction k with | zero => rfl | succ k ih => simp [sumN] at ih ⊢; exact ih
  | cons a l ih =>
    rw [List.countP_cons, ih (fun x hx => h x (by simp [hx]))]
    have e : ∀ m, sumN (fun i => List.countP (q i) (a :: l)) m = sumN (fun i => List.countP (q i) l) m + sumN (fun i => if q i a = true then 1 else 0) m := by
      intro m
      induction m with
      | zero => rfl
      | succ m ih =>
        show sumN (fun i => List.countP (q i) (a :: l)) m + List.countP (q m) (a :: l) = (sumN (fun i => List.countP (q i) l) m + List.countP (q m) l) + (sumN (fun i => if q i a = true then 1 else 0) m + if q m a = true then 1 else 0)
        rw [ih, List.countP_cons]; omega
    rw [e k]
    have hh := h a (by simp)
    have e2 : sumN (fun i => if q i a = true then 1 else 0) k = if p a = true then 1 else 0 := by
      by_cases hp : p a = true
      · obtain ⟨i, hi, hq⟩ := hh.1 hp
        have hu := (hh.2 i hi hq).2
        rw [if_pos hp]
        have : ∀ m, m ≤ k → sumN (fun i => if q i a = true then 1 else 0) m = if i < m then 1 else 0 := by
          intro m
          induction m with
          | zero => intro _; rfl
          | succ m ih =>
            intro hm
            rw [sumN, ih (by omega)]
            by_cases hqm : q m a = true
            · have := hu m (by omega) hqm
              subst this
              simp [hqm]
            · have : m ≠ i := fun e => hqm (e ▸ hq)
              rw [if_neg hqm]
              by_cases h1 : i < m
              · rw [if_pos h1, if_pos (by omega)]
              · rw [if_neg h1, if_neg (by omega)]
        rw [this k (Nat.le_refl _), if_pos hi]
      · rw [if_neg hp]
        have : ∀ m, m ≤ k → sumN (fun i => if q i a = true then 1 else 0) m = 0 := by
          intro m
          induction m with
          | zero => intro _; rfl
          | succ m ih =>
            intro hm
            rw [sumN, ih (by omega), if_neg (fun hq => hp (hh.2 m (by omega) hq).1)]
        exact this k (Nat.le_refl _)
    rw [e2]
open Classical in
theorem cnt_branch {n : Nat} {b : List (List Int)} (h : sqShape n b) {r c : Nat} (hr : r < n) (hc : c < n) (h0 : gAt b r c < 0) : cnt n b = sumN (fun x => cnt n (gset b r c x)) n := by
  unfold cnt
  refine countP_split _ _ _ n fun s hs => ?_
  have hs := mem_allSq.1 hs
  simp only [decide_eq_true_eq]
  refine ⟨fun he => ?_, fun i hi hq => ⟨?_, ?_⟩⟩
  · have hl := hs.lo r c hr hc
    refine ⟨(gAt s r c).toNat, by omega, fun i j hi hj hp => ?_⟩
    rw [gAt_gset h hr hc] at hp ⊢
    by_cases e : i = r ∧ j = c
    · rw [if_pos e]; obtain ⟨rfl, rfl⟩ := e; omega
    · rw [if_neg e] at hp ⊢; exact he i j hi hj hp
  · intro i' j' hi' hj' hp
    by_cases e : i' = r ∧ j' = c
    · obtain ⟨rfl, rfl⟩ := e; omega
    · have := hq i' j' hi' hj'
      rw [gAt_gset h hr hc, if_neg e] at this
      exact this hp
  · intro j hj hq2
    have a1 := hq r c hr hc
    have a2 := hq2 r c hr hc
    rw [gAt_gset h hr hc, if_pos ⟨rfl, rfl⟩] at a1 a2
    have := a1 (by omega)
    have := a2 (by omega)
    omega
theorem cnt_notfree {n : Nat} {b : List (List Int)} (h : sqShape n b) {r c : Nat} (hr : r < n) (hc : c < n) (h0 : gAt b r c < 0) {x : Int} (hx : 0 ≤ x) (hf : ¬ freeP n b r c x) : cnt n (gset b r c x) = 0 := by
  rcases Nat.eq_zero_or_pos (cnt n (gset b r c x)) with e | hp
  · exact e
  · exfalso
    obtain ⟨s, hs, he⟩ := cnt_pos.1 hp
    apply hf
    intro i hi
    have a0 := he r c hr hc
    rw [gAt_gset h hr hc, if_pos ⟨rfl, rfl⟩] at a0
    have a0 := a0 hx
    constructor
    · intro e
      have hic : i ≠ c := by rintro rfl; omega
      have a1 := he r i hr hi
      rw [gAt_gset h hr hc, if_neg (fun e => hic e.2)] at a1
      have a1 := a1 (by omega)
      exact hs.once.1 r c i hr hc hi (fun e => hic e.symm) (by omega) (by omega)
    · intro e
      have hir : i ≠ r := by rintro rfl; omega
      have a1 := he i c hi hc
      rw [gAt_gset h hr hc, if_neg (fun e => hir e.1)] at a1
      have a1 := a1 (by omega)
      exact hs.once.2 r i c hr hi hc (fun e => hir e.symm) (by omega) (by omega)
end Go.Proofs.YtiodednhadnekaaDoor
