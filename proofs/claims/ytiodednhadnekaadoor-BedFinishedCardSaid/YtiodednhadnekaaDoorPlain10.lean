/- Plain laws: the two searches for a mate find the same. No condition. -/
import Derived.Test.YtiodednhadnekaaDoorPlain9
import Derived.Test.YtiodednhadnekaaDoorA5
namespace Go.Proofs.YtiodednhadnekaaDoor

/-! ### the search place by place -/
def okM (n : Nat) (b m : List (List Int)) (p x : Nat) : Bool := !((List.range p).any fun i => cl n b i == cl n b p && cl n m i == (x : Int)) && freeB n m (p / n) (p % n) x
def refF (n : Nat) (b : List (List Int)) : Nat → Nat → List (List Int) → Option (List (List Int))
  | 0, _, m => some m
  | f + 1, p, m => (List.range n).findSome? fun x => if okM n b m p x = true then refF n b f (p + 1) (gset m (p / n) (p % n) (x : Nat)) else none
theorem findSome_inv {α : Type} {f : Nat → Option α} : ∀ n, (∀ y, (List.range n).findSome? f = some y → ∃ k, k < n ∧ f k = some y ∧ ∀ j, j < k → f j = none) ∧ ((List.range n).findSome? f = none → ∀ k, k < n → f k = none)
  | 0 => ⟨fun y h => by simp at h, fun _ k hk => by omega⟩
  | n + 1 => by
    obtain ⟨i1, i2⟩ := findSome_inv (f := f) n
    rw [List.range_succ, List.findSome?_append]
    cases h : (List.range n).findSome? f with
    | some y =>
      refine ⟨fun z hz => ?_, fun h2 => by simp at h2⟩
      obtain ⟨k, hk, h1, h2⟩ := i1 y h
      have e : y = z := by simpa using hz
      subst e
      exact ⟨k, by omega, h1, h2⟩
    | none =>
      have hn := i2 h
      refine ⟨fun z hz => ⟨n, by omega, by simpa using hz, hn⟩, fun h2 k hk => ?_⟩
      by_cases e : k = n
      · rw [e]; simpa using h2
      · exact hn k (by omega)
/-- The places before p are sown. -/
structure PartM (n : Nat) (b m : List (List Int)) (p : Nat) : Prop where
  shape : sqShape n m
  done : ∀ i, i < p → 0 ≤ cl n m i ∧ cl n m i < n
  todo : ∀ i, p ≤ i → i < n * n → cl n m i = -1
  once : NoTwice n m
  orth : ∀ i j, i < p → j < p → cl n b i = cl n b j → cl n m i = cl n m j → i = j
theorem cl_gset {n : Nat} {m : List (List Int)} (h : sqShape n m) {p : Nat} (hp : p < n * n) (x : Int) {i : Nat} (hi : i < n * n) : cl n (gset m (p / n) (p % n) x) i = if i = p then x else cl n m i := by
  obtain ⟨j1, j2, j3⟩ := idx_split hp
  obtain ⟨k1, k2, k3⟩ := idx_split hi
  unfold cl
  rw [gAt_gset h j1 j2]
  by_cases e : i = p
  · rw [if_pos e, if_pos ⟨by rw [e], by rw [e]⟩]
  · rw [if_neg e, if_neg]
    rintro ⟨h1, h2⟩
    rw [h1, h2] at k3
    omega
theorem PartM.bed {n : Nat} {b m : List (List Int)} {p : Nat} (h : PartM n b m p) : IsBed n m :=
  ⟨h.shape, fun r c hr hc => by
    have hi := idx_lt hr hc
    rw [← cl_at m hc]
    rcases Nat.lt_or_ge (r * n + c) p with h1 | h1
    · have := h.done _ h1; omega
    · rw [h.todo _ h1 hi]; omega, h.once⟩
theorem okM_iff {n : Nat} {b m : List (List Int)} {p x : Nat} : okM n b m p x = true ↔ (∀ i, i < p → cl n b i = cl n b p → cl n m i ≠ (x : Int)) ∧ freeP n m (p / n) (p % n) (x : Int) := by
  unfold okM
  rw [Bool.and_eq_true, freeB_iff, Bool.not_eq_true', List.any_eq_false]
  refine and_congr_left' ⟨fun h i hi h1 h2 => ?_, fun h i hi => ?_⟩
  · exact h i (List.mem_range.2 hi) (by simp [h1, h2])
  · simp only [Bool.and_eq_true, beq_iff_eq]
    rintro ⟨h1, h2⟩
    exact h i (List.mem_range.1 hi) h1 h2
theorem PartM.next {n : Nat} {b m : List (List Int)} {p x : Nat} (h : PartM n b m p) (hp : p < n * n) (hx : x < n) (hok : okM n b m p x = true) : PartM n b (gset m (p / n) (p % n) (x : Nat)) (p + 1) := by
  obtain ⟨h1, h2⟩ := okM_iff.1 hok
  obtain ⟨j1, j2, j3⟩ := idx_split hp
  have hB := h.bed.put j1 j2 (x := (x : Int)) (by omega) (by omega) h2
  refine ⟨hB.shape, fun i hi => ?_, fun i hi hin => ?_, hB.once, fun i j hi hj => ?_⟩
  · rw [cl_gset h.shape hp _ (by omega)]
    split
    · omega
    · exact h.done i (by omega)
  · rw [cl_gset h.shape hp _ hin, if_neg (by omega)]
    exact h.todo i (by omega) hin
  · rw [cl_gset h.shape hp _ (show i < n * n by omega), cl_gset h.shape hp _ (show j < n * n by omega)]
    by_cases e1 : i = p
    · by_cases e2 : j = p
      · omega
      · rw [if_pos e1, if_neg e2, e1]
        intro a1 a2
        exact absurd a2.symm (h1 j (by omega) a1.symm)
    · by_cases e2 : j = p
      · rw [if_neg e1, if_pos e2, e2]
        intro a1 a2
        exact absurd a2 (h1 i (by omega) a1)
      · rw [if_neg e1, if_neg e2]
        exact h.orth i j (by omega) (by omega)
/-- A mate that agrees so far may be sown so. -/
theorem mate_ok {n : Nat} {b m t : List (List Int)} {p : Nat} (h : PartM n b m p) (hp : p < n * n) (ht : MateP n b t) (hag : ∀ i, i < p → cl n t i = cl n m i) : ∃ x : Nat, x < n ∧ cl n t p = x ∧ okM n b m p x = true := by
  obtain ⟨j1, j2, j3⟩ := idx_split hp
  have hl := ht.1.lo _ _ j1 j2
  obtain ⟨x, hx⟩ : ∃ x : Nat, gAt t (p / n) (p % n) = x := ⟨(gAt t (p / n) (p % n)).toNat, by omega⟩
  refine ⟨x, by omega, hx, okM_iff.2 ⟨fun i hi h1 h2 => ?_, fun i hi => ⟨fun e => ?_, fun e => ?_⟩⟩⟩
  · obtain ⟨k1, k2, k3⟩ := idx_split (show i < n * n by omega)
    have h3 := ht.2 _ _ _ _ k1 k2 j1 j2 h1 (show cl n t i = cl n t p by rw [hag i hi, h2]; exact hx.symm)
    rw [h3.1, h3.2] at k3
    omega
  · have hii := idx_lt j1 hi
    have e' : cl n m (p / n * n + i) = (x : Int) := by rw [cl_at m hi]; exact e
    rcases Nat.lt_or_ge (p / n * n + i) p with h4 | h4
    · have h5 := hag _ h4
      rw [e', cl_at t hi] at h5
      have := ht.1.once.1 (p / n) i (p % n) j1 hi j2 (by omega) (by omega)
      exact this (by rw [h5, hx])
    · rw [h.todo _ h4 hii] at e'; omega
  · have hii := idx_lt hi j2
    have e' : cl n m (i * n + p % n) = (x : Int) := by rw [cl_at m j2]; exact e
    rcases Nat.lt_or_ge (i * n + p % n) p with h4 | h4
    · have h5 := hag _ h4
      rw [e', cl_at t j2] at h5
      have hne : i ≠ p / n := fun e => by rw [e] at h4; omega
      exact ht.1.once.2 i (p / n) (p % n) hi j1 j2 hne (by omega) (by rw [h5, hx])
    · rw [h.todo _ h4 hii] at e'; omega
theorem PartM.mate {n : Nat} {b m : List (List Int)} (h : PartM n b m (n * n)) : MateP n b m := by
  refine ⟨⟨h.shape, fun r c hr hc => by have := h.done _ (idx_lt hr hc); rwa [cl_at m hc] at this, h.once⟩, fun r c s d hr hc hs hd h1 h2 => ?_⟩
  have := h.orth _ _ (idx_lt hr hc) (idx_lt hs hd) (by rw [cl_at b hc, cl_at b hd]; exact h1) (by rw [cl_at m hc, cl_at m hd]; exact h2)
  have e1 := congrArg (· / n) this
  have e2 := congrArg (· % n) this
  have hn : 0 < n := by omega
  simp only [Nat.add_comm _ c, Nat.add_comm _ d, Nat.add_mul_div_right _ _ hn, Nat.div_eq_of_lt hc, Nat.div_eq_of_lt hd, Nat.add_mul_mod_self_right, Nat.mod_eq_of_lt hc, Nat.mod_eq_of_lt hd] at e1 e2
  exact ⟨by omega, e2⟩
theorem refF_spec {n : Nat} {b : List (List Int)} : ∀ (f p : Nat) (m : List (List Int)), p + f = n * n → PartM n b m p →
    (∀ s, refF n b f p m = some s → MateP n b s ∧ (∀ i, i < p → cl n s i = cl n m i) ∧ ∀ t, MateP n b t → (∀ i, i < p → cl n t i = cl n m i) → t = s ∨ LexI n s t) ∧
    (refF n b f p m = none → ∀ t, MateP n b t → ¬ ∀ i, i < p → cl n t i = cl n m i)
  | 0, p, m, hp, h => by
    obtain rfl : p = n * n := by omega
    refine ⟨fun s hs => ?_, fun hs => by simp [refF] at hs⟩
    have e : m = s := by simpa [refF] using hs
    subst e
    exact ⟨h.mate, fun _ _ => rfl, fun t ht hag => .inl (cl_ext ht.1.shape h.shape hag)⟩
  | f + 1, p, m, hp, h => by
    have hpn : p < n * n := by omega
    have hF : ∀ x, x < n → ∀ g, (if okM n b m p x = true then refF n b f (p + 1) (gset m (p / n) (p % n) (x : Nat)) else none) = g → (g = none ∧ okM n b m p x = false) ∨ (okM n b m p x = true ∧ PartM n b (gset m (p / n) (p % n) (x : Nat)) (p + 1) ∧ refF n b f (p + 1) (gset m (p / n) (p % n) (x : Nat)) = g) := fun x hx g hg => by
      cases hok : okM n b m p x
      · rw [hok] at hg; simp at hg; exact .inl ⟨hg.symm, rfl⟩
      · rw [hok, if_pos rfl] at hg; exact .inr ⟨rfl, h.next hpn hx hok, hg⟩
    have hag' : ∀ (x : Nat) (t : List (List Int)), (∀ i, i < p → cl n t i = cl n m i) → cl n t p = x → ∀ i, i < p + 1 → cl n t i = cl n (gset m (p / n) (p % n) (x : Nat)) i := fun x t ht hx i hi => by
      rw [cl_gset h.shape hpn _ (by omega)]
      by_cases e : i = p
      · rw [if_pos e, e, hx]
      · rw [if_neg e]; exact ht i (by omega)
    have hno : ∀ x, x < n → (if okM n b m p x = true then refF n b f (p + 1) (gset m (p / n) (p % n) (x : Nat)) else none) = none → ∀ t, MateP n b t → (∀ i, i < p → cl n t i = cl n m i) → cl n t p ≠ x := fun x hx hnone t ht hta hxp => by
      obtain ⟨y, hy, hyp, hok⟩ := mate_ok h hpn ht hta
      have e : x = y := by rw [hxp] at hyp; omega
      subst e
      rcases hF x hx _ hnone with ⟨_, h2⟩ | ⟨_, h3, h4⟩
      · rw [hok] at h2; cases h2
      · exact (refF_spec f (p + 1) _ (by omega) h3).2 h4 t ht (hag' x t hta hxp)
    have hinv := findSome_inv (f := fun x => if okM n b m p x = true then refF n b f (p + 1) (gset m (p / n) (p % n) (x : Nat)) else none) n
    refine ⟨fun s hs => ?_, fun hs t ht hta => ?_⟩
    · obtain ⟨x, hx, h1, h2⟩ := hinv.1 s hs
      rcases hF x hx _ h1 with ⟨h3, _⟩ | ⟨hok, h3, h4⟩
      · cases h3
      · obtain ⟨i1, i2, i3⟩ := (refF_spec f (p + 1) _ (by omega) h3).1 s h4
        have hsp : cl n s p = x := by rw [i2 p (by omega), cl_gset h.shape hpn _ hpn, if_pos rfl]
        have hsi : ∀ i, i < p → cl n s i = cl n m i := fun i hi => by rw [i2 i (by omega), cl_gset h.shape hpn _ (by omega), if_neg (by omega)]
        refine ⟨i1, hsi, fun t ht hta => ?_⟩
        obtain ⟨y, hy, hyp, _⟩ := mate_ok h hpn ht hta
        rcases Nat.lt_trichotomy y x with e | e | e
        · exact absurd hyp (hno y hy (h2 y e) t ht hta)
        · subst e
          exact i3 t ht (hag' y t hta hyp)
        · exact .inr ⟨p, hpn, fun i hi => (hsi i hi).trans (hta i hi).symm, by omega⟩
    · obtain ⟨y, hy, hyp, _⟩ := mate_ok h hpn ht hta
      exact hno y hy (hinv.2 hs y hy) t ht hta hyp
/-! ### the search by transversals -/
structure StO (n : Nat) (b : List (List Int)) (k : Nat) (o : Nat → Nat → Int) : Prop where
  val : ∀ r c, o r c = -1 ∨ (0 ≤ o r c ∧ o r c < k)
  trs : ∀ j, j < k → ∃ l, IsTr n b l ∧ l.getD 0 0 = j ∧ ∀ r c, r < n → c < n → (o r c = (j : Int) ↔ c = l.getD r 0)
theorem StO.zero (n : Nat) (b : List (List Int)) : StO n b 0 (fun _ _ => -1) := ⟨fun _ _ => .inl rfl, fun j hj => by omega⟩
theorem layTo_eq (n : Nat) (l : List Nat) (x : Int) (o : Nat → Nat → Int) (r c : Nat) : layTo n l x o r c = if r < n ∧ c = l.getD r 0 then x else o r c := rfl
theorem StO.lay {n : Nat} {b : List (List Int)} {k : Nat} {o : Nat → Nat → Int} (h : StO n b k o) {l : List Nat} (hl : IsTr n b l) (h0 : l.getD 0 0 = k) (hf : freeTo n l o = true) : StO n b (k + 1) (layTo n l (k : Nat) o) := by
  refine ⟨fun r c => ?_, fun j hj => ?_⟩
  · rw [layTo_eq]
    split
    · right; omega
    · rcases h.val r c with e | e
      · exact .inl e
      · right; omega
  · by_cases e : j = k
    · subst e
      refine ⟨l, hl, h0, fun r c hr hc => ?_⟩
      rw [layTo_eq]
      by_cases hcl : c = l.getD r 0
      · rw [if_pos ⟨hr, hcl⟩]; simp [hcl]
      · rw [if_neg (fun h => hcl h.2)]
        refine ⟨fun h2 => ?_, fun h2 => absurd h2 hcl⟩
        have := h.val r c
        omega
    · obtain ⟨l', h1, h2, h3⟩ := h.trs j (by omega)
      refine ⟨l', h1, h2, fun r c hr hc => ?_⟩
      rw [layTo_eq]
      by_cases hcl : c = l.getD r 0
      · rw [if_pos ⟨hr, hcl⟩]
        refine ⟨fun h4 => by omega, fun h4 => ?_⟩
        have h5 := (h3 r c hr hc).2 h4
        have h6 := free_at hf hr
        rw [← hcl, h5] at h6
        omega
      · rw [if_neg (fun h => hcl h.2)]
        exact h3 r c hr hc
theorem StO.full {n : Nat} {b : List (List Int)} {o : Nat → Nat → Int} (h : StO n b n o) (hn : 0 < n) : MateP n b (gridL n o) ∧ ∀ j, j < n → gAt (gridL n o) 0 j = j := by
  have hch : ∃ L : Nat → List Nat, ∀ j, j < n → IsTr n b (L j) ∧ (L j).getD 0 0 = j ∧ ∀ r c, r < n → c < n → (o r c = (j : Int) ↔ c = (L j).getD r 0) :=
    ⟨fun j => if hj : j < n then (h.trs j hj).choose else [], fun j hj => by simp only [dif_pos hj]; exact (h.trs j hj).choose_spec⟩
  obtain ⟨L, hL⟩ := hch
  have hon : ∀ r c, r < n → c < n → ∃ j, j < n ∧ o r c = (j : Int) := fun r c hr hc => by
    obtain ⟨j, hj, e⟩ := onto_of_inj (n := n) (f := fun j => (L j).getD r 0) (fun j hj => (hL j hj).1.2.1 r hr) (fun i j hi hj hij e => by
      have h1 := ((hL i hi).2.2 r _ hr ((hL i hi).1.2.1 r hr)).2 rfl
      have h2 := ((hL j hj).2.2 r _ hr ((hL j hj).1.2.1 r hr)).2 rfl
      have e : (L i).getD r 0 = (L j).getD r 0 := e
      rw [e, h2] at h1
      omega) c hc
    exact ⟨j, hj, ((hL j hj).2.2 r c hr hc).2 e.symm⟩
  have hcol : ∀ j, j < n → ∀ r s, r < n → s < n → r ≠ s → (L j).getD r 0 ≠ (L j).getD s 0 ∧ gAt b r ((L j).getD r 0) ≠ gAt b s ((L j).getD s 0) := fun j hj r s hr hs hrs => by
    rcases Nat.lt_or_ge r s with h1 | h1
    · exact (hL j hj).1.2.2 r s h1 hs
    · have := (hL j hj).1.2.2 s r (by omega) hr
      exact ⟨this.1.symm, this.2.symm⟩
  refine ⟨⟨⟨gridL_shape n o, fun r c hr hc => ?_, ⟨fun r c d hr hc hd hcd h0 => ?_, fun r s c hr hs hc hrs h0 => ?_⟩⟩, fun r c s d hr hc hs hd h1 h2 => ?_⟩, fun j hj => ?_⟩
  · rw [gAt_gridL o hr hc]
    obtain ⟨j, hj, e⟩ := hon r c hr hc
    omega
  · rw [gAt_gridL o hr hc, gAt_gridL o hr hd]
    obtain ⟨j, hj, e⟩ := hon r c hr hc
    intro e2
    rw [e] at e2
    exact hcd (((hL j hj).2.2 r c hr hc).1 e |>.trans (((hL j hj).2.2 r d hr hd).1 e2.symm).symm)
  · rw [gAt_gridL o hr hc, gAt_gridL o hs hc]
    obtain ⟨j, hj, e⟩ := hon r c hr hc
    intro e2
    rw [e] at e2
    exact (hcol j hj r s hr hs hrs).1 ((((hL j hj).2.2 r c hr hc).1 e).symm.trans (((hL j hj).2.2 s c hs hc).1 e2.symm))
  · rw [gAt_gridL o hr hc, gAt_gridL o hs hd] at h2
    obtain ⟨j, hj, e⟩ := hon r c hr hc
    have c1 := ((hL j hj).2.2 r c hr hc).1 e
    have c2 := ((hL j hj).2.2 s d hs hd).1 (by rw [← h2]; exact e)
    have hrs : r = s := by
      rcases Decidable.em (r = s) with h3 | h3
      · exact h3
      · exact absurd (by rw [← c1, ← c2]; exact h1) (hcol j hj r s hr hs h3).2
    subst hrs
    exact ⟨rfl, c1.trans c2.symm⟩
  · rw [gAt_gridL o hn hj]
    exact ((hL j hj).2.2 0 j hn hj).2 (hL j hj).2.1.symm
def Restr (n k : Nat) (s : List (List Int)) (o : Nat → Nat → Int) : Prop := ∀ r c, r < n → c < n → o r c = if gAt s r c < k then gAt s r c else -1
def QP (n : Nat) (b : List (List Int)) (k : Nat) (o : Nat → Nat → Int) (s : List (List Int)) : Prop := MateP n b s ∧ (∀ j, j < n → gAt s 0 j = j) ∧ Restr n k s o
def LeG (n : Nat) (s t : List (List Int)) : Prop := s ≠ [] ∧ (s = t ∨ LexI n s t)
theorem LeG.trans {n : Nat} {s t u : List (List Int)} (h : LeG n s t) (h' : LeG n t u) : LeG n s u := by
  refine ⟨h.1, ?_⟩
  rcases h.2 with e | e
  · rw [e]; exact h'.2
  · rcases h'.2 with e' | e'
    · rw [← e']; exact .inr e
    · exact .inr (e.trans e')
theorem QP.end_ {n : Nat} {b : List (List Int)} {o : Nat → Nat → Int} {s : List (List Int)} (h : QP n b n o s) : s = gridL n o :=
  grid_ext h.1.1.shape (gridL_shape n o) fun r c hr hc => by
    rw [gAt_gridL o hr hc, h.2.2 r c hr hc, if_pos (h.1.1.lo r c hr hc).2]
theorem QP.up {n : Nat} {b : List (List Int)} {k : Nat} {o : Nat → Nat → Int} {s : List (List Int)} {l : List Nat} (h : QP n b (k + 1) (layTo n l (k : Nat) o) s) (hS : StO n b k o) (hf : freeTo n l o = true) : QP n b k o s := by
  refine ⟨h.1, h.2.1, fun r c hr hc => ?_⟩
  have h1 := h.2.2 r c hr hc
  rw [layTo_eq] at h1
  have hl := h.1.1.lo r c hr hc
  have hv := hS.val r c
  by_cases e : r < n ∧ c = l.getD r 0
  · rw [if_pos e] at h1
    have h2 := free_at hf hr
    rw [← e.2] at h2
    split at h1
    · rw [if_neg (by omega)]; omega
    · omega
  · rw [if_neg e] at h1
    split at h1
    · by_cases e2 : gAt s r c < (k : Int)
      · rw [if_pos e2]; exact h1
      · omega
    · rw [if_neg (by omega)]; exact h1
/-- The places of a crop. -/
def posL (s : List (List Int)) (n : Nat) (x : Int) : List Nat := (List.range n).map fun r => posN s n r x
theorem posL_get {s : List (List Int)} {n r : Nat} (x : Int) (hr : r < n) : (posL s n x).getD r 0 = posN s n r x := by simp [posL, List.getD_eq_getElem?_getD, hr]
theorem posL_tr {n : Nat} {b s : List (List Int)} (h : MateP n b s) {k : Nat} (hk : k < n) : IsTr n b (posL s n k) := by
  refine ⟨by simp [posL], fun i hi => by rw [posL_get _ hi]; exact (posN_lt h.1 hi hk).1, fun i j hij hj => ?_⟩
  have hi : i < n := by omega
  rw [posL_get _ hi, posL_get _ hj]
  obtain ⟨a1, a2⟩ := posN_lt h.1 hi hk
  obtain ⟨a3, a4⟩ := posN_lt h.1 hj hk
  refine ⟨fun e => ?_, fun e => ?_⟩
  · rw [← e] at a3 a4
    exact h.1.once.2 i j _ hi hj a3 (by omega) (by omega) (by rw [a2, a4])
  · have := (h.2 i _ j _ hi a1 hj a3 e (by rw [a2, a4])).1
    omega
theorem QP.down {n : Nat} {b : List (List Int)} {k : Nat} {o : Nat → Nat → Int} {s : List (List Int)} (hn : 0 < n) (h : QP n b k o s) (hk : k < n) : (posL s n k).getD 0 0 = k ∧ freeTo n (posL s n k) o = true ∧ QP n b (k + 1) (layTo n (posL s n k) (k : Nat) o) s := by
  have hp : ∀ r, r < n → posN s n r k < n ∧ gAt s r (posN s n r k) = (k : Int) := fun r hr => posN_lt h.1.1 hr hk
  refine ⟨?_, ?_, h.1, h.2.1, fun r c hr hc => ?_⟩
  · rw [posL_get _ hn]
    have := (hp 0 hn).2
    rw [h.2.1 _ (hp 0 hn).1] at this
    omega
  · unfold freeTo
    rw [List.all_eq_true]
    intro r hr
    have hr := List.mem_range.1 hr
    rw [posL_get _ hr, decide_eq_true_eq, h.2.2 r _ hr (hp r hr).1, (hp r hr).2, if_neg (by omega)]
    omega
  · rw [layTo_eq, posL_get _ hr]
    have hl := h.1.1.lo r c hr hc
    by_cases e : c = posN s n r k
    · rw [if_pos ⟨hr, e⟩, e, (hp r hr).2, if_pos (by omega)]
    · rw [if_neg (fun h => e h.2), h.2.2 r c hr hc]
      have hne : gAt s r c ≠ (k : Int) := fun e2 => e (by rw [← e2]; exact (posN_is h.1.1 hr hc).symm)
      by_cases e2 : gAt s r c < (k : Int)
      · rw [if_pos e2, if_pos (by omega)]
      · rw [if_neg e2, if_neg (by omega)]
theorem ne_nil_of_shape {n : Nat} {s : List (List Int)} (hn : 0 < n) (h : sqShape n s) : s ≠ [] := fun e => by have := h.1; rw [e] at this; simp at this; omega
theorem mtF_spec {n : Nat} {b : List (List Int)} (hn : 0 < n) (hb : IsFull n b) : ∀ (f k : Nat) (o : Nat → Nat → Int) (best : List (List Int)), k + f = n → StO n b k o → MG n best →
    (best ≠ [] → LeG n (mtF n (trans b n) f k o best) best) ∧ (mtF n (trans b n) f k o best = best ∨ QP n b k o (mtF n (trans b n) f k o best)) ∧ ∀ s, QP n b k o s → LeG n (mtF n (trans b n) f k o best) s
  | 0, k, o, best, hk, hS, hM => by
    obtain rfl : k = n := by omega
    obtain ⟨hm, h0⟩ := hS.full hn
    have hsh := gridL_shape k o
    have hne := ne_nil_of_shape hn hsh
    have hQ : QP k b k o (gridL k o) := ⟨hm, h0, fun r c hr hc => by rw [gAt_gridL o hr hc, if_pos]; have := hm.1.lo r c hr hc; rw [gAt_gridL o hr hc] at this; exact this.2⟩
    show _ ∧ (updM k o best = best ∨ _) ∧ _
    have key : (updM k o best = gridL k o ∧ (best ≠ [] → LexI k (gridL k o) best)) ∨ (updM k o best = best ∧ best ≠ [] ∧ (best = gridL k o ∨ LexI k best (gridL k o))) := by
      unfold updM
      by_cases e : best = []
      · rw [if_pos e]; exact .inl ⟨rfl, fun h => absurd e h⟩
      · have hbs := hM.resolve_left e
        rw [if_neg e]
        by_cases hc : cmpG (gridL k o) best < 0
        · rw [if_pos hc]; exact .inl ⟨rfl, fun _ => (cmpG_lex hsh hbs).1 hc⟩
        · rw [if_neg hc]
          refine .inr ⟨rfl, e, ?_⟩
          rcases lex_tri hbs hsh with h | h | h
          · exact .inl h
          · exact .inr h
          · exact absurd ((cmpG_lex hsh hbs).2 h) hc
    have e0 : mtF k (trans b k) 0 k o best = updM k o best := rfl
    rw [e0]
    rcases key with ⟨e, h⟩ | ⟨e, h1, h2⟩
    · rw [e]
      exact ⟨fun hb => ⟨hne, .inr (h hb)⟩, .inr hQ, fun s hs => ⟨hne, .inl hs.end_.symm⟩⟩
    · rw [e]
      exact ⟨fun _ => ⟨h1, .inl rfl⟩, .inl rfl, fun s hs => ⟨h1, by rw [hs.end_]; exact h2⟩⟩
  | f + 1, k, o, best, hk, hS, hM => by
    have hkn : k < n := by omega
    have key : ∀ (T : List (List Nat)), (∀ l ∈ T, IsTr n b l ∧ l.getD 0 0 = k) → ∀ best, MG n best →
        (best ≠ [] → LeG n (T.foldl (mtStep n (trans b n) f k o) best) best) ∧ (T.foldl (mtStep n (trans b n) f k o) best = best ∨ QP n b k o (T.foldl (mtStep n (trans b n) f k o) best)) ∧
        ∀ l ∈ T, freeTo n l o = true → ∀ s, QP n b (k + 1) (layTo n l (k : Nat) o) s → LeG n (T.foldl (mtStep n (trans b n) f k o) best) s := by
      intro T
      induction T with
      | nil => intro _ best _; exact ⟨fun h => ⟨h, .inl rfl⟩, .inl rfl, fun l hl => by simp at hl⟩
      | cons l T ih =>
        intro hT best hM
        rw [List.foldl_cons]
        obtain ⟨hl, hl0⟩ := hT l (by simp)
        have ihT := ih (fun l hl => hT l (by simp [hl]))
        cases hf : freeTo n l o
        · have e : mtStep n (trans b n) f k o best l = best := by unfold mtStep; rw [hf]; rfl
          rw [e]
          obtain ⟨h1, h2, h3⟩ := ihT best hM
          refine ⟨h1, h2, fun l' hl' hf' => ?_⟩
          rcases List.mem_cons.1 hl' with e | e
          · rw [e, hf] at hf'; cases hf'
          · exact h3 l' e hf'
        · have e : mtStep n (trans b n) f k o best l = mtF n (trans b n) f (k + 1) (layTo n l (k : Nat) o) best := by unfold mtStep; rw [hf]; rfl
          have hM' : MG n (mtF n (trans b n) f (k + 1) (layTo n l (k : Nat) o) best) := mtF_shape f _ _ _ hM
          obtain ⟨g1, g2, g3⟩ := mtF_spec hn hb f (k + 1) (layTo n l (k : Nat) o) best (by omega) (hS.lay hl hl0 hf) hM
          rw [e]
          obtain ⟨h1, h2, h3⟩ := ihT _ hM'
          refine ⟨fun hbn => ?_, ?_, fun l' hl' hf' s hs => ?_⟩
          · exact (h1 (g1 hbn).1).trans (g1 hbn)
          · rcases h2 with h2 | h2
            · rw [h2]
              rcases g2 with g2 | g2
              · exact .inl g2
              · exact .inr (g2.up hS hf)
            · exact .inr h2
          · rcases List.mem_cons.1 hl' with e | e
            · subst e
              have := g3 s hs
              exact (h1 this.1).trans this
            · exact h3 l' e hf' s hs
    have hT : ∀ l ∈ byCol (trans b n) k, IsTr n b l ∧ l.getD 0 0 = k := fun l hl => by
      unfold byCol at hl
      rw [List.mem_filter] at hl
      exact ⟨(mem_trans hb l).1 hl.1, by simpa using hl.2⟩
    obtain ⟨h1, h2, h3⟩ := key _ hT best hM
    have e : mtF n (trans b n) (f + 1) k o best = (byCol (trans b n) k).foldl (mtStep n (trans b n) f k o) best := rfl
    rw [e]
    refine ⟨h1, h2, fun s hs => ?_⟩
    obtain ⟨a1, a2, a3⟩ := hs.down hn hkn
    refine h3 (posL s n k) ?_ a2 s a3
    unfold byCol
    rw [List.mem_filter]
    exact ⟨(mem_trans hb _).2 (posL_tr hs.1 hkn), by simpa using a1⟩
/-! ### the same -/
/-- Crops renumbered so that the first row is 0, 1 and so on. -/
def relab (n : Nat) (s : List (List Int)) : List (List Int) := gridL n fun r c => (posN s n 0 (gAt s r c) : Int)
theorem relab_mate {n : Nat} {b s : List (List Int)} (hn : 0 < n) (h : MateP n b s) : MateP n b (relab n s) ∧ ∀ j, j < n → gAt (relab n s) 0 j = j := by
  have hp : ∀ r c, r < n → c < n → posN s n 0 (gAt s r c) < n ∧ gAt s 0 (posN s n 0 (gAt s r c)) = gAt s r c := fun r c hr hc => by
    have hl := h.1.lo r c hr hc
    obtain ⟨x, hx⟩ : ∃ x : Nat, gAt s r c = x := ⟨(gAt s r c).toNat, by omega⟩
    rw [hx]
    exact posN_lt h.1 hn (by omega)
  have hinj : ∀ r c s' d, r < n → c < n → s' < n → d < n → gAt (relab n s) r c = gAt (relab n s) s' d → gAt s r c = gAt s s' d := fun r c s' d hr hc hs hd e => by
    unfold relab at e
    rw [gAt_gridL _ hr hc, gAt_gridL _ hs hd] at e
    rw [← (hp r c hr hc).2, ← (hp s' d hs hd).2]
    congr 1
    omega
  refine ⟨⟨⟨gridL_shape _ _, fun r c hr hc => ?_, ⟨fun r c d hr hc hd hcd _ e => ?_, fun r s' c hr hs hc hrs _ e => ?_⟩⟩, fun r c s' d hr hc hs hd h1 h2 => ?_⟩, fun j hj => ?_⟩
  · unfold relab
    rw [gAt_gridL _ hr hc]
    have := (hp r c hr hc).1
    omega
  · exact h.1.once.1 r c d hr hc hd hcd (h.1.lo r c hr hc).1 (hinj _ _ _ _ hr hc hr hd e)
  · exact h.1.once.2 r s' c hr hs hc hrs (h.1.lo r c hr hc).1 (hinj _ _ _ _ hr hc hs hc e)
  · exact h.2 r c s' d hr hc hs hd h1 (hinj _ _ _ _ hr hc hs hd h2)
  · unfold relab
    rw [gAt_gridL _ hn hj, posN_is h.1 hn hj]
def noneG (n : Nat) : List (List Int) := gridL n fun _ _ => -1
theorem part_none (n : Nat) (b : List (List Int)) : PartM n b (noneG n) 0 := by
  have hg : ∀ r c, r < n → c < n → gAt (noneG n) r c = -1 := fun r c hr hc => gAt_gridL _ hr hc
  exact ⟨gridL_shape _ _, fun i hi => by omega, fun i _ hi => by obtain ⟨h1, h2, _⟩ := idx_split hi; exact hg _ _ h1 h2, ⟨fun r c d hr hc hd _ h0 => by rw [hg r c hr hc] at h0; omega, fun r s c hr hs hc _ h0 => by rw [hg r c hr hc] at h0; omega⟩, fun i j hi => by omega⟩
/-- What the search by transversals finds. -/
theorem mtF_mate {n : Nat} {b : List (List Int)} (hn : 0 < n) (hb : IsFull n b) : (mtF n (trans b n) n 0 (fun _ _ => -1) [] = [] → ∀ t, ¬ MateP n b t) ∧ (mtF n (trans b n) n 0 (fun _ _ => -1) [] ≠ [] → MateP n b (mtF n (trans b n) n 0 (fun _ _ => -1) [])) := by
  obtain ⟨_, h2, h3⟩ := mtF_spec hn hb n 0 (fun _ _ => -1) [] (by omega) (StO.zero n b) (.inl rfl)
  have hQ : ∀ t, MateP n b t → QP n b 0 (fun _ _ => -1) (relab n t) := fun t ht => by
    obtain ⟨a1, a2⟩ := relab_mate hn ht
    exact ⟨a1, a2, fun r c hr hc => by rw [if_neg]; have := a1.1.lo r c hr hc; omega⟩
  refine ⟨fun e t ht => (h3 _ (hQ t ht)).1 e, fun hne => ?_⟩
  rcases h2 with h2 | h2
  · exact absurd h2 hne
  · exact h2.1
theorem mate_law {n : Nat} {b : List (List Int)} (hn : 0 < n) (hb : IsFull n b) : mtF n (trans b n) n 0 (fun _ _ => -1) [] = (refF n b (n * n) 0 (noneG n)).getD [] ∧ (refF n b (n * n) 0 (noneG n) = none ↔ mtF n (trans b n) n 0 (fun _ _ => -1) [] = []) := by
  obtain ⟨_, h2, h3⟩ := mtF_spec hn hb n 0 (fun _ _ => -1) [] (by omega) (StO.zero n b) (.inl rfl)
  obtain ⟨m1, m2⟩ := mtF_mate hn hb
  obtain ⟨r1, r2⟩ := refF_spec (n := n) (b := b) (n * n) 0 (noneG n) (by omega) (part_none n b)
  generalize mtF n (trans b n) n 0 (fun _ _ => -1) [] = R at *
  cases hr : refF n b (n * n) 0 (noneG n) with
  | none =>
    have hno := r2 hr
    have e : R = [] := by
      rcases Decidable.em (R = []) with e | e
      · exact e
      · exact absurd (fun i hi => by omega) (hno R (m2 e))
    exact ⟨by rw [e]; rfl, ⟨fun _ => e, fun _ => rfl⟩⟩
  | some s =>
    obtain ⟨hs, _, hmin⟩ := r1 s hr
    have hne : R ≠ [] := fun e => m1 e s hs
    have hRP := m2 hne
    -- the least mate begins with 0, 1 and so on
    have hrow : ∀ j, j < n → gAt s 0 j = j := by
      obtain ⟨a1, a2⟩ := relab_mate hn hs
      have hle := hmin (relab n s) a1 (fun i hi => by omega)
      intro j
      induction j using Nat.strongRecOn with
      | _ j ih =>
        intro hj
        have hlo : (j : Int) ≤ gAt s 0 j := by
          have hl := hs.1.lo 0 j hn hj
          rcases Int.lt_or_le (gAt s 0 j) j with h | h
          · exfalso
            obtain ⟨x, hx⟩ : ∃ x : Nat, gAt s 0 j = x := ⟨(gAt s 0 j).toNat, by omega⟩
            have := ih x (by omega) (by omega)
            exact hs.1.once.1 0 j x hn hj (by omega) (by omega) hl.1 (by rw [this, hx])
          · exact h
        rcases Int.lt_or_le (j : Int) (gAt s 0 j) with h | h
        · exfalso
          have hlt : LexI n (relab n s) s := ⟨0 * n + j, idx_lt hn hj, fun i hi => by
            have hin : i < n := by omega
            have e : i = 0 * n + i := by omega
            rw [e, cl_at _ hin, cl_at _ hin, a2 i hin, ih i (by omega) hin], by
            rw [cl_at _ hj, cl_at _ hj, a2 j hj]; exact h⟩
          rcases hle with e | e
          · rw [e] at hlt; exact hlt.asymm hlt
          · exact e.asymm hlt
        · omega
    have hQs : QP n b 0 (fun _ _ => -1) s := ⟨hs, hrow, fun r c hr hc => by rw [if_neg]; have := hs.1.lo r c hr hc; omega⟩
    have e : R = s := by
      rcases (h3 s hQs).2 with e | e
      · exact e
      · rcases hmin R hRP (fun i hi => by omega) with e' | e'
        · exact e'
        · exact absurd e e'.asymm
    exact ⟨by rw [e]; rfl, ⟨fun h => (by cases h), fun h => absurd h hne⟩⟩
end Go.Proofs.YtiodednhadnekaaDoor
