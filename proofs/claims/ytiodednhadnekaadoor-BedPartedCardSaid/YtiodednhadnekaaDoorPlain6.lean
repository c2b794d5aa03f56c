/- Plain laws: a bed has a mate exactly if its places can be parted into transversals. -/
import Derived.Test.YtiodednhadnekaaDoorW34
namespace Go.Proofs.YtiodednhadnekaaDoor

/-- Can the places that are left be parted, from the transversal k on? -/
def mtAny (n : Nat) (T : List (List Nat)) : Nat → Nat → (Nat → Nat → Int) → Bool
  | 0, _, _ => true
  | f + 1, k, o => (byCol T k).any fun l => freeTo n l o && mtAny n T f (k + 1) (layTo n l k o)
theorem updM_ne {n : Nat} (hn : 0 < n) (o : Nat → Nat → Int) (best : List (List Int)) : updM n o best ≠ [] := by
  have hg : gridL n o ≠ [] := fun e => by have := gridL_len n o; rw [e] at this; simp at this; omega
  unfold updM
  split
  · exact hg
  · split
    · exact hg
    · assumption
theorem mtF_any {n : Nat} (hn : 0 < n) (T : List (List Nat)) : ∀ (f k : Nat) (o : Nat → Nat → Int) (best : List (List Int)), mtF n T f k o best = [] ↔ best = [] ∧ mtAny n T f k o = false
  | 0, k, o, best => by
    have := updM_ne hn o best
    simp [mtF, mtAny, this]
  | f + 1, k, o, best => by
    unfold mtF mtAny
    generalize byCol T k = L
    induction L generalizing best with
    | nil => simp
    | cons l L ih =>
      rw [List.foldl_cons, ih, List.any_cons]
      cases hf : freeTo n l o
      · simp
      · simp only [if_true, Bool.true_and, Bool.or_eq_false_iff]
        rw [mtF_any hn T f (k + 1) (layTo n l k o) best, and_assoc]
theorem okT_nil (b : List (List Int)) (c : Nat) : okT b [] c = true := by simp [okT, colsM, cropsM, orN]
theorem trF_head {b : List (List Int)} {n : Nat} : ∀ (k : Nat) (l : List Nat), 0 < l.length → ∀ l' ∈ trF b n k l, l'.getD 0 0 = l.getD 0 0
  | 0, l, _, l', h' => by simp [trF] at h'; rw [h']
  | k + 1, l, hl, l', h' => by
    unfold trF at h'
    rw [List.mem_flatMap] at h'
    obtain ⟨c, _, h2⟩ := h'
    split at h2
    · rw [trF_head k (l ++ [c]) (by simp) l' h2, getD_app1 hl]
    · simp at h2
theorem byCol_none {T : List (List Nat)} {k : Nat} (h : ∀ l ∈ T, l.getD 0 0 ≠ k) : byCol T k = [] := by
  unfold byCol
  rw [List.filter_eq_nil_iff]
  intro l hl
  simpa using h l hl
theorem byCol_all {T : List (List Nat)} {k : Nat} (h : ∀ l ∈ T, l.getD 0 0 = k) : byCol T k = T := by
  unfold byCol
  rw [List.filter_eq_self]
  intro l hl
  simpa using h l hl
/-- The transversals that begin with a column. -/
theorem byCol_trans {b : List (List Int)} {n k : Nat} (hk : k < n) : byCol (trans b n) k = trF b n (n - 1) [k] := by
  obtain ⟨m, rfl⟩ : ∃ m, n = m + 1 := ⟨n - 1, by omega⟩
  have key : ∀ c, c ≤ m + 1 → byCol (trTo b (m + 1) m [] c) k = if k < c then trF b (m + 1) m [k] else [] := by
    intro c
    induction c with
    | zero => intro _; rw [trTo_zero, if_neg (by omega)]; rfl
    | succ c ih =>
      intro hc
      have e : trC b (m + 1) m [] c = trF b (m + 1) m [c] := by unfold trC; rw [okT_nil, if_pos rfl]; rfl
      have hh : ∀ l ∈ trF b (m + 1) m [c], l.getD 0 0 = c := fun l hl => trF_head m [c] (by simp) l hl
      have happ : byCol (trTo b (m + 1) m [] c ++ trF b (m + 1) m [c]) k = byCol (trTo b (m + 1) m [] c) k ++ byCol (trF b (m + 1) m [c]) k := by unfold byCol; rw [List.filter_append]
      rw [trTo_succ, e, happ, ih (by omega)]
      by_cases h1 : k = c
      · subst h1
        rw [if_neg (by omega), if_pos (by omega), byCol_all hh, List.nil_append]
      · rw [byCol_none fun l hl => by rw [hh l hl]; omega, List.append_nil]
        by_cases h2 : k < c
        · rw [if_pos h2, if_pos (by omega)]
        · rw [if_neg h2, if_neg (by omega)]
  have h := key (m + 1) (Nat.le_refl _)
  rw [if_pos hk] at h
  exact h
/-- Is the rest of a transversal free? -/
def freeFr (n m : Nat) (l : List Nat) (o : Nat → Nat → Int) : Bool := (List.range n).all fun r => decide (r < m) || decide (o r (l.getD r 0) < 0)
/-- Can it go on so? -/
def partF (b : List (List Int)) (n : Nat) (f k : Nat) (o : Nat → Nat → Int) (j : Nat) (l : List Nat) : Bool := (trF b n j l).any fun l' => freeFr n l.length l' o && mtAny n (trans b n) f (k + 1) (layTo n l' k o)
theorem freeFr_all (n m : Nat) (l : List Nat) (o : Nat → Nat → Int) (h : n ≤ m) : freeFr n m l o = true := by
  unfold freeFr
  rw [List.all_eq_true]
  intro r hr
  have := List.mem_range.1 hr
  simp; left; omega
theorem freeFr_zero (n : Nat) (l : List Nat) (o : Nat → Nat → Int) : freeFr n 0 l o = freeTo n l o := by
  unfold freeFr freeTo
  congr 1
theorem freeFr_step {n m : Nat} (l : List Nat) (o : Nat → Nat → Int) (h : m < n) : freeFr n m l o = (decide (o m (l.getD m 0) < 0) && freeFr n (m + 1) l o) := by
  rw [Bool.eq_iff_iff]
  unfold freeFr
  simp only [List.all_eq_true, List.mem_range, Bool.or_eq_true, decide_eq_true_eq, Bool.and_eq_true]
  constructor
  · intro h1
    refine ⟨?_, fun r hr => ?_⟩
    · rcases h1 m h with h2 | h2
      · omega
      · exact h2
    · rcases h1 r hr with h2 | h2
      · left; omega
      · right; exact h2
  · rintro ⟨h1, h2⟩ r hr
    by_cases e : r = m
    · right; rw [e]; exact h1
    · rcases h2 r hr with h3 | h3
      · left; omega
      · right; exact h3
theorem trF_keep {b : List (List Int)} {n : Nat} : ∀ (j : Nat) (l : List Nat), ∀ l' ∈ trF b n j l, ∀ i, i < l.length → l'.getD i 0 = l.getD i 0
  | 0, l, l', h', i, _ => by simp [trF] at h'; rw [h']
  | j + 1, l, l', h', i, hi => by
    unfold trF at h'
    rw [List.mem_flatMap] at h'
    obtain ⟨c, _, h2⟩ := h'
    split at h2
    · rw [trF_keep j (l ++ [c]) l' h2 i (by simp; omega), getD_app1 hi]
    · simp at h2
theorem partF_end (b : List (List Int)) (n f k : Nat) (o : Nat → Nat → Int) (l : List Nat) (hl : n ≤ l.length) : partF b n f k o 0 l = mtAny n (trans b n) f (k + 1) (layTo n l k o) := by
  unfold partF
  rw [show trF b n 0 l = [l] from rfl, List.any_cons, List.any_nil, Bool.or_false, freeFr_all n l.length l o hl, Bool.true_and]
theorem partF_step (b : List (List Int)) (n f k : Nat) (o : Nat → Nat → Int) (j : Nat) (l : List Nat) (hl : l.length < n) : partF b n f k o (j + 1) l = (List.range n).any fun c => decide (o l.length c < 0) && okT b l c && partF b n f k o j (l ++ [c]) := by
  unfold partF
  rw [show trF b n (j + 1) l = (List.range n).flatMap fun c => if okT b l c = true then trF b n j (l ++ [c]) else [] from rfl, List.any_flatMap]
  congr 1
  funext c
  cases hok : okT b l c
  · simp
  · rw [if_pos rfl, Bool.and_true]
    have e : ∀ l' ∈ trF b n j (l ++ [c]), (freeFr n l.length l' o && mtAny n (trans b n) f (k + 1) (layTo n l' k o)) = (decide (o l.length c < 0) && (freeFr n (l ++ [c]).length l' o && mtAny n (trans b n) f (k + 1) (layTo n l' k o))) := fun l' hl' => by
      have h1 := trF_keep j (l ++ [c]) l' hl' l.length (by simp)
      rw [getD_app2] at h1
      rw [freeFr_step l' o hl, h1, List.length_append, List.length_singleton, Bool.and_assoc]
    rw [Bool.eq_iff_iff]
    simp only [List.any_eq_true, Bool.and_eq_true]
    constructor
    · rintro ⟨l', h1, h2⟩
      have h3 := e l' h1
      rw [h2.1, h2.2] at h3
      have h4 := h3.symm
      simp only [Bool.and_eq_true, Bool.and_true] at h4
      exact ⟨h4.1, l', h1, h4.2, h2.2⟩
    · rintro ⟨h0, l', h1, h2⟩
      have h3 := e l' h1
      rw [h0, h2.1, h2.2] at h3
      simp only [Bool.and_true] at h3
      exact ⟨l', h1, h3, h2.2⟩
/-- A transversal that begins with its column, as the parts see it. -/
theorem mtAny_part (b : List (List Int)) (n f k : Nat) (o : Nat → Nat → Int) (hk : k < n) (h0 : o 0 k < 0) : mtAny n (trans b n) (f + 1) k o = partF b n f k o (n - 1) [k] := by
  unfold partF
  show ((byCol (trans b n) k).any fun l => freeTo n l o && mtAny n (trans b n) f (k + 1) (layTo n l k o)) = _
  rw [byCol_trans hk, Bool.eq_iff_iff]
  simp only [List.any_eq_true, Bool.and_eq_true]
  have e : ∀ l' ∈ trF b n (n - 1) [k], freeTo n l' o = freeFr n [k].length l' o := fun l' hl' => by
    have h1 := trF_head (n - 1) [k] (by simp) l' hl'
    have h2 : ([k] : List Nat).getD 0 0 = k := rfl
    rw [← freeFr_zero, freeFr_step l' o (by omega), h1, h2, decide_eq_true h0, Bool.true_and]
    rfl
  constructor
  · rintro ⟨l', h1, h2⟩
    exact ⟨l', h1, by rw [← e l' h1]; exact h2⟩
  · rintro ⟨l', h1, h2⟩
    exact ⟨l', h1, by rw [e l' h1]; exact h2⟩
end Go.Proofs.YtiodednhadnekaaDoor
