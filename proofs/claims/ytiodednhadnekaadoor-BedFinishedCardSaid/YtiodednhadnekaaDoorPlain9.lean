/- Plain laws: the least mate of a bed is the one that a search place by place finds first. No condition. -/
import Derived.Test.YtiodednhadnekaaDoorA4
namespace Go.Proofs.YtiodednhadnekaaDoor

/-! ### transversals -/
/-- A transversal: its column in each row. -/
def IsTr (n : Nat) (b : List (List Int)) (l : List Nat) : Prop := l.length = n ∧ (∀ i, i < n → l.getD i 0 < n) ∧ ∀ i j, i < j → j < n → l.getD i 0 ≠ l.getD j 0 ∧ gAt b i (l.getD i 0) ≠ gAt b j (l.getD j 0)
def PreTr (b : List (List Int)) (l : List Nat) : Prop := ∀ i j, i < j → j < l.length → l.getD i 0 ≠ l.getD j 0 ∧ gAt b i (l.getD i 0) ≠ gAt b j (l.getD j 0)
theorem okT_pre {b : List (List Int)} {n c : Nat} {l : List Nat} (hb : IsFull n b) (hl : l.length < n) (hc : c < n) (hln : ∀ i, i < l.length → l.getD i 0 < n) (hp : PreTr b l) : okT b l c = true ↔ PreTr b (l ++ [c]) := by
  rw [← rokT_ok hb hl hc hln]
  unfold rokT
  simp only [List.all_eq_true, List.mem_range, Bool.and_eq_true, decide_eq_true_eq]
  constructor
  · intro h i j hij hj
    rw [List.length_append, List.length_singleton] at hj
    rcases Nat.lt_or_ge j l.length with h1 | h1
    · rw [getD_app1 h1, getD_app1 (show i < l.length by omega)]
      exact hp i j hij h1
    · obtain rfl : j = l.length := by omega
      rw [getD_app2, getD_app1 hij]
      exact h i hij
  · intro h i hi
    have := h i l.length hi (by simp)
    rw [getD_app2, getD_app1 hi] at this
    exact this
theorem mem_trF {b : List (List Int)} {n : Nat} (hb : IsFull n b) : ∀ (k : Nat) (l : List Nat), l.length + k = n → (∀ i, i < l.length → l.getD i 0 < n) → PreTr b l → ∀ l', l' ∈ trF b n k l ↔ l'.length = n ∧ (∀ i, i < l.length → l'.getD i 0 = l.getD i 0) ∧ (∀ i, i < n → l'.getD i 0 < n) ∧ PreTr b l'
  | 0, l, hl, hln, hp, l' => by
    simp only [trF, List.mem_singleton]
    constructor
    · rintro rfl
      exact ⟨by omega, fun _ _ => rfl, fun i hi => hln i (by omega), hp⟩
    · rintro ⟨h1, h2, _, _⟩
      apply List.ext_getElem (by omega)
      intro i a1 a2
      have := h2 i a2
      simpa [List.getD_eq_getElem?_getD, a1, a2] using this
  | k + 1, l, hl, hln, hp, l' => by
    have hlt : l.length < n := by omega
    have hln' : ∀ c, c < n → ∀ i, i < (l ++ [c]).length → (l ++ [c]).getD i 0 < n := fun c hc i hi => by
      rw [List.length_append, List.length_singleton] at hi
      rcases Nat.lt_or_ge i l.length with h | h
      · rw [getD_app1 h]; exact hln i h
      · obtain rfl : i = l.length := by omega
        rw [getD_app2]; exact hc
    unfold trF
    rw [List.mem_flatMap]
    constructor
    · rintro ⟨c, hc, h⟩
      have hc := List.mem_range.1 hc
      cases hok : okT b l c
      · rw [hok] at h; simp at h
      · rw [hok, if_pos rfl] at h
        have hpc := (okT_pre hb hlt hc hln hp).1 hok
        obtain ⟨h1, h2, h3, h4⟩ := (mem_trF hb k (l ++ [c]) (by simp; omega) (hln' c hc) hpc l').1 h
        refine ⟨h1, fun i hi => ?_, h3, h4⟩
        rw [h2 i (by simp; omega), getD_app1 hi]
    · rintro ⟨h1, h2, h3, h4⟩
      have hc := h3 l.length hlt
      refine ⟨l'.getD l.length 0, List.mem_range.2 hc, ?_⟩
      have heq : ∀ i, i < (l ++ [l'.getD l.length 0]).length → l'.getD i 0 = (l ++ [l'.getD l.length 0]).getD i 0 := fun i hi => by
        rw [List.length_append, List.length_singleton] at hi
        rcases Nat.lt_or_ge i l.length with h | h
        · rw [getD_app1 h]; exact h2 i h
        · obtain rfl : i = l.length := by omega
          rw [getD_app2]
      have hpc : PreTr b (l ++ [l'.getD l.length 0]) := fun i j hij hj => by
        rw [← heq i (by omega), ← heq j hj]
        exact h4 i j hij (by simp at hj; omega)
      rw [(okT_pre hb hlt hc hln hp).2 hpc, if_pos rfl]
      exact (mem_trF hb k _ (by simp; omega) (hln' _ hc) hpc l').2 ⟨h1, heq, h3, h4⟩
theorem mem_trans {b : List (List Int)} {n : Nat} (hb : IsFull n b) (l : List Nat) : l ∈ trans b n ↔ IsTr n b l := by
  unfold trans
  rw [mem_trF hb n [] (by simp) (fun i hi => by simp at hi) (fun i j _ hj => by simp at hj)]
  constructor
  · rintro ⟨h1, _, h3, h4⟩
    exact ⟨h1, h3, fun i j hij hj => h4 i j hij (by omega)⟩
  · rintro ⟨h1, h2, h3⟩
    exact ⟨h1, fun i hi => by simp at hi, h2, fun i j hij hj => h3 i j hij (by omega)⟩
theorem nodup_flat {α β : Type} {f : α → List β} : ∀ {l : List α}, l.Nodup → (∀ a, (f a).Nodup) → (∀ a b, a ≠ b → ∀ x ∈ f a, x ∉ f b) → (l.flatMap f).Nodup
  | [], _, _, _ => by simp
  | a :: l, h, h1, h2 => by
    obtain ⟨h3, h4⟩ := List.nodup_cons.1 h
    rw [List.flatMap_cons, List.nodup_append]
    refine ⟨h1 a, nodup_flat h4 h1 h2, fun x hx y hy e => ?_⟩
    obtain ⟨b, hb, hy⟩ := List.mem_flatMap.1 hy
    subst e
    exact h2 a b (fun e => h3 (e ▸ hb)) x hx hy
theorem trF_nodup (b : List (List Int)) (n : Nat) : ∀ (k : Nat) (l : List Nat), (trF b n k l).Nodup
  | 0, l => by simp [trF]
  | k + 1, l => by
    unfold trF
    refine nodup_flat List.nodup_range (fun c => ?_) (fun c d hcd x hx hy => ?_)
    · split
      · exact trF_nodup b n k _
      · simp
    · split at hx
      · split at hy
        · have h1 := trF_keep k _ x hx l.length (by simp)
          have h2 := trF_keep k _ x hy l.length (by simp)
          rw [getD_app2] at h1 h2
          exact hcd (h1.symm.trans h2)
        · simp at hy
      · simp at hx
theorem trans_nodup (b : List (List Int)) (n : Nat) : (trans b n).Nodup := trF_nodup b n n []

/-! ### mates -/
def OrthP (n : Nat) (a b : List (List Int)) : Prop := ∀ r c s d, r < n → c < n → s < n → d < n → gAt a r c = gAt a s d → gAt b r c = gAt b s d → r = s ∧ c = d
theorem OrthP.symm {n : Nat} {a b : List (List Int)} (h : OrthP n a b) : OrthP n b a := fun r c s d hr hc hs hd h1 h2 => h r c s d hr hc hs hd h2 h1
def MateP (n : Nat) (b m : List (List Int)) : Prop := IsFull n m ∧ OrthP n b m
/-! ### the order of grids -/
def cl (n : Nat) (s : List (List Int)) (i : Nat) : Int := gAt s (i / n) (i % n)
theorem cl_at {n r c : Nat} (s : List (List Int)) (hc : c < n) : cl n s (r * n + c) = gAt s r c := by
  unfold cl
  have hn : 0 < n := by omega
  rw [show (r * n + c) / n = r by rw [Nat.add_comm, Nat.add_mul_div_right _ _ hn, Nat.div_eq_of_lt hc]; omega, show (r * n + c) % n = c by rw [Nat.add_comm, Nat.add_mul_mod_self_right]; exact Nat.mod_eq_of_lt hc]
theorem idx_lt {n r c : Nat} (hr : r < n) (hc : c < n) : r * n + c < n * n := by
  have : r * n + n ≤ n * n := by
    have := Nat.mul_le_mul_right n (show r + 1 ≤ n by omega)
    rw [Nat.succ_mul] at this
    exact this
  omega
theorem idx_split {n i : Nat} (hi : i < n * n) : i / n < n ∧ i % n < n ∧ i = i / n * n + i % n := by
  have hn : 0 < n := by
    rcases Nat.eq_zero_or_pos n with h | h
    · rw [h] at hi; simp at hi
    · exact h
  refine ⟨Nat.div_lt_of_lt_mul hi, Nat.mod_lt _ hn, ?_⟩
  have := Nat.div_add_mod i n
  rw [Nat.mul_comm] at this
  omega
theorem cl_ext {n : Nat} {s t : List (List Int)} (hs : sqShape n s) (ht : sqShape n t) (h : ∀ i, i < n * n → cl n s i = cl n t i) : s = t :=
  grid_ext hs ht fun r c hr hc => by
    have := h _ (idx_lt hr hc)
    rwa [cl_at s hc, cl_at t hc] at this
/-- The lexicographic order. -/
def LexI (n : Nat) (s t : List (List Int)) : Prop := ∃ k, k < n * n ∧ (∀ i, i < k → cl n s i = cl n t i) ∧ cl n s k < cl n t k
theorem LexI.asymm {n : Nat} {s t : List (List Int)} (h : LexI n s t) : ¬ LexI n t s := by
  rintro ⟨k, hk, h1, h2⟩
  obtain ⟨j, hj, h3, h4⟩ := h
  rcases Nat.lt_trichotomy j k with e | e | e
  · have := h1 j e; omega
  · subst e; omega
  · have := h3 k e; omega
theorem lex_least {n : Nat} {s t : List (List Int)} : ∀ N, N ≤ n * n → (∀ i, i < N → cl n s i = cl n t i) ∨ LexI n s t ∨ LexI n t s
  | 0, _ => .inl fun i hi => by omega
  | N + 1, hN => by
    rcases lex_least (n := n) (s := s) (t := t) N (by omega) with h | h
    · rcases Int.lt_trichotomy (cl n s N) (cl n t N) with e | e | e
      · exact .inr (.inl ⟨N, by omega, h, e⟩)
      · refine .inl fun i hi => ?_
        by_cases hin : i = N
        · rw [hin]; exact e
        · exact h i (by omega)
      · exact .inr (.inr ⟨N, by omega, fun i hi => (h i hi).symm, e⟩)
    · exact .inr h
theorem lex_tri {n : Nat} {s t : List (List Int)} (hs : sqShape n s) (ht : sqShape n t) : s = t ∨ LexI n s t ∨ LexI n t s := by
  rcases lex_least (s := s) (t := t) (n * n) (Nat.le_refl _) with h | h
  · exact .inl (cl_ext hs ht h)
  · exact .inr h
theorem LexI.trans {n : Nat} {s t u : List (List Int)} (h : LexI n s t) (h' : LexI n t u) : LexI n s u := by
  obtain ⟨k, hk, h1, h2⟩ := h
  obtain ⟨j, hj, h3, h4⟩ := h'
  rcases Nat.lt_trichotomy j k with e | e | e
  · exact ⟨j, hj, fun i hi => (h1 i (by omega)).trans (h3 i hi), by rw [h1 j e]; exact h4⟩
  · subst e
    exact ⟨j, hj, fun i hi => (h1 i hi).trans (h3 i hi), by omega⟩
  · exact ⟨k, hk, fun i hi => (h1 i hi).trans (h3 i (by omega)), by rw [← h3 k e]; exact h2⟩
theorem cmpBy_iff {α : Type} {f : α → α → Int} : ∀ {x y : List α}, x.length = y.length → ∀ d, (cmpBy f x y = 0 ↔ ∀ k, k < x.length → f (x.getD k d) (y.getD k d) = 0) ∧ (cmpBy f x y < 0 ↔ ∃ k, k < x.length ∧ (∀ j, j < k → f (x.getD j d) (y.getD j d) = 0) ∧ f (x.getD k d) (y.getD k d) < 0)
  | [], [], _, d => ⟨⟨fun _ k hk => by simp at hk, fun _ => rfl⟩, ⟨fun h => by simp [cmpBy] at h, fun ⟨k, hk, _⟩ => by simp at hk⟩⟩
  | a :: x, b :: y, hl, d => by
    obtain ⟨i1, i2⟩ := cmpBy_iff (f := f) (x := x) (y := y) (by simpa using hl) d
    unfold cmpBy
    by_cases h0 : f a b = 0
    · rw [if_pos h0, i1, i2]
      refine ⟨⟨fun h k hk => ?_, fun h k hk => ?_⟩, ⟨fun ⟨k, h1, h2, h3⟩ => ?_, fun ⟨k, h1, h2, h3⟩ => ?_⟩⟩
      · cases k with
        | zero => simpa using h0
        | succ k => simpa using h k (by simpa using hk)
      · have := h (k + 1) (by simpa using hk)
        simpa using this
      · refine ⟨k + 1, by simpa using h1, fun j hj => ?_, by simpa using h3⟩
        cases j with
        | zero => simpa using h0
        | succ j => simpa using h2 j (by omega)
      · cases k with
        | zero => simp only [List.getD_cons_zero] at h3; omega
        | succ k => exact ⟨k, by simpa using h1, fun j hj => by have := h2 (j + 1) (by omega); simpa using this, by simpa using h3⟩
    · rw [if_neg h0]
      refine ⟨⟨fun h => absurd h h0, fun h => absurd (by simpa using h 0 (by simp)) h0⟩, ⟨fun h => ⟨0, by simp, fun j hj => by omega, by simpa using h⟩, fun ⟨k, h1, h2, h3⟩ => ?_⟩⟩
      cases k with
      | zero => simpa using h3
      | succ k => exact absurd (by simpa using h2 0 (by omega)) h0
theorem cmp3_iff (x y : Int) : (cmp3 x y = 0 ↔ x = y) ∧ (cmp3 x y < 0 ↔ x < y) := by
  unfold cmp3
  split
  · constructor <;> constructor <;> intro h <;> omega
  · split <;> (constructor <;> constructor <;> intro h <;> omega)
theorem cmpG_lex {n : Nat} {s t : List (List Int)} (hs : sqShape n s) (ht : sqShape n t) : cmpG s t < 0 ↔ LexI n s t := by
  unfold cmpG
  rw [(cmpBy_iff (f := cmpL) (x := s) (y := t) (by rw [hs.1, ht.1]) []).2]
  have h0 : ∀ r, r < n → (cmpL (s.getD r []) (t.getD r []) = 0 ↔ ∀ c, c < n → gAt s r c = gAt t r c) := fun r hr => by
    unfold cmpL
    rw [(cmpBy_iff (f := cmp3) (x := s.getD r []) (y := t.getD r []) (by rw [hs.2 r hr, ht.2 r hr]) 0).1, hs.2 r hr]
    exact ⟨fun h c hc => (cmp3_iff _ _).1.1 (h c hc), fun h c hc => (cmp3_iff _ _).1.2 (h c hc)⟩
  have h1 : ∀ r, r < n → (cmpL (s.getD r []) (t.getD r []) < 0 ↔ ∃ c, c < n ∧ (∀ d, d < c → gAt s r d = gAt t r d) ∧ gAt s r c < gAt t r c) := fun r hr => by
    unfold cmpL
    rw [(cmpBy_iff (f := cmp3) (x := s.getD r []) (y := t.getD r []) (by rw [hs.2 r hr, ht.2 r hr]) 0).2, hs.2 r hr]
    exact ⟨fun ⟨c, hc, h, h'⟩ => ⟨c, hc, fun d hd => (cmp3_iff _ _).1.1 (h d hd), (cmp3_iff _ _).2.1 h'⟩, fun ⟨c, hc, h, h'⟩ => ⟨c, hc, fun d hd => (cmp3_iff _ _).1.2 (h d hd), (cmp3_iff _ _).2.2 h'⟩⟩
  rw [hs.1]
  constructor
  · rintro ⟨r, hr, h2, h3⟩
    obtain ⟨c, hc, h4, h5⟩ := (h1 r hr).1 h3
    refine ⟨r * n + c, idx_lt hr hc, fun i hi => ?_, by rw [cl_at s hc, cl_at t hc]; exact h5⟩
    have hin : i < n * n := Nat.lt_trans hi (idx_lt hr hc)
    obtain ⟨j1, j2, j3⟩ := idx_split hin
    have hle : i / n ≤ r := by
      have : i / n < r + 1 := by
        rw [Nat.div_lt_iff_lt_mul (by omega), Nat.succ_mul]; omega
      omega
    unfold cl
    rcases Nat.lt_or_ge (i / n) r with h6 | h6
    · exact (h0 _ j1).1 (h2 _ h6) _ j2
    · have e : i / n = r := by omega
      rw [e] at j3 ⊢
      exact h4 _ (by omega)
  · rintro ⟨k, hk, h2, h3⟩
    obtain ⟨j1, j2, j3⟩ := idx_split hk
    refine ⟨k / n, j1, fun p hp => (h0 p (by omega)).2 fun c hc => ?_, (h1 _ j1).2 ⟨k % n, j2, fun d hd => ?_, h3⟩⟩
    · have := h2 (p * n + c) (by
        have := Nat.mul_le_mul_right n (show p + 1 ≤ k / n by omega)
        rw [Nat.succ_mul] at this
        omega)
      rwa [cl_at s hc, cl_at t hc] at this
    · have hd' : d < n := by omega
      have := h2 (k / n * n + d) (by omega)
      rwa [cl_at s hd', cl_at t hd'] at this
end Go.Proofs.YtiodednhadnekaaDoor
