/- Plain laws: lists in ascending order, each once; the orders. No condition. -/
import Derived.Lib.Hide
namespace Go.Proofs.YtmepndnckcpgjaaGreat

/-- slices.Compare -/
def cmpL : List Int → List Int → Int
  | [], [] => 0
  | [], _ :: _ => -1
  | _ :: _, [] => 1
  | a :: as, b :: bs => if a < b then -1 else if b < a then 1 else cmpL as bs
theorem cmpL_zero : ∀ {a b : List Int}, cmpL a b = 0 ↔ a = b
  | [], [] => by simp [cmpL]
  | [], _ :: _ => by simp [cmpL]
  | _ :: _, [] => by simp [cmpL]
  | a :: as, b :: bs => by
    unfold cmpL
    by_cases h1 : a < b
    · rw [if_pos h1]
      constructor
      · intro h; omega
      · intro h; injection h with h2 _; omega
    · by_cases h2 : b < a
      · rw [if_neg h1, if_pos h2]
        constructor
        · intro h; omega
        · intro h; injection h with h3 _; omega
      · rw [if_neg h1, if_neg h2, cmpL_zero]
        have : a = b := by omega
        subst this
        simp
theorem cmpL_neg : ∀ (a b : List Int), cmpL b a = - cmpL a b
  | [], [] => rfl
  | [], _ :: _ => rfl
  | _ :: _, [] => rfl
  | a :: as, b :: bs => by
    unfold cmpL
    by_cases h1 : a < b
    · rw [if_pos h1, if_neg (by omega), if_pos h1]; rfl
    · by_cases h2 : b < a
      · rw [if_pos h2, if_neg h1, if_pos h2]
      · rw [if_neg h1, if_neg h2, if_neg h2, if_neg h1, cmpL_neg as bs]
theorem cmpL_trans : ∀ {a b c : List Int}, cmpL a b < 0 → cmpL b c < 0 → cmpL a c < 0
  | [], _, [], h1, h2 => by
    rename_i b
    cases b with
    | nil => simp [cmpL] at h1
    | cons b bs => simp [cmpL] at h2
  | [], _, _ :: _, _, _ => by simp [cmpL]
  | _ :: _, [], _, h1, _ => by simp [cmpL] at h1
  | _ :: _, _ :: _, [], _, h2 => by simp [cmpL] at h2
  | a :: as, b :: bs, c :: cs, h1, h2 => by
    unfold cmpL at h1 h2 ⊢
    by_cases a1 : a < b
    · by_cases b1 : b < c
      · rw [if_pos (by omega)]; omega
      · by_cases b2 : c < b
        · rw [if_neg b1, if_pos b2] at h2; omega
        · rw [if_pos (by omega)]; omega
    · by_cases a2 : b < a
      · rw [if_neg a1, if_pos a2] at h1; omega
      · rw [if_neg a1, if_neg a2] at h1
        by_cases b1 : b < c
        · rw [if_pos (by omega)]; omega
        · by_cases b2 : c < b
          · rw [if_neg b1, if_pos b2] at h2; omega
          · rw [if_neg b1, if_neg b2] at h2
            rw [if_neg (by omega), if_neg (by omega)]
            exact cmpL_trans h1 h2
theorem cmpL_total {a b : List Int} (h1 : ¬ cmpL a b < 0) (h2 : ¬ cmpL b a < 0) : a = b := by
  rw [cmpL_neg] at h2
  exact cmpL_zero.1 (by omega)
theorem cmpL_irr (a : List Int) : cmpL a a = 0 := cmpL_zero.2 rfl
/-! ### ascending lists, each once -/
def StrictL (l : List (List Int)) : Prop := l.Pairwise fun a b => cmpL a b < 0
theorem strict_eq : ∀ {l m : List (List Int)}, StrictL l → StrictL m → (∀ x, x ∈ l ↔ x ∈ m) → l = m
  | [], [], _, _, _ => rfl
  | [], y :: m, _, _, h => by have := (h y).2 (by simp); cases this
  | x :: l, [], _, _, h => by have := (h x).1 (by simp); cases this
  | x :: l, y :: m, hl, hm, h => by
    obtain ⟨l1, l2⟩ := List.pairwise_cons.1 hl
    obtain ⟨m1, m2⟩ := List.pairwise_cons.1 hm
    have e : x = y := by
      rcases List.mem_cons.1 ((h x).1 (by simp)) with e | hx
      · exact e
      · rcases List.mem_cons.1 ((h y).2 (by simp)) with e | hy
        · exact e.symm
        · have h1 := l1 y hy
          have h2 := m1 x hx
          rw [cmpL_neg] at h2
          omega
    subst e
    have ht : l = m := strict_eq l2 m2 fun z => by
      constructor
      · intro hz
        rcases List.mem_cons.1 ((h z).1 (by simp [hz])) with e | h3
        · have := l1 z hz; rw [e, cmpL_irr] at this; omega
        · exact h3
      · intro hz
        rcases List.mem_cons.1 ((h z).2 (by simp [hz])) with e | h3
        · have := m1 z hz; rw [e, cmpL_irr] at this; omega
        · exact h3
    rw [ht]
/-- The list with x put into it. -/
def putF (l : List (List Int)) (x : List Int) : List (List Int) :=
  match l with
  | [] => [x]
  | a :: t => if cmpL a x < 0 then a :: putF t x else if cmpL x a < 0 then x :: a :: t else a :: t
theorem mem_putF {l : List (List Int)} {x y : List Int} : y ∈ putF l x ↔ y = x ∨ y ∈ l := by
  induction l with
  | nil => simp [putF]
  | cons a t ih =>
    unfold putF
    split
    · rw [List.mem_cons, ih, List.mem_cons]
      constructor
      · rintro (h | h | h)
        · exact .inr (.inl h)
        · exact .inl h
        · exact .inr (.inr h)
      · rintro (h | h | h)
        · exact .inr (.inl h)
        · exact .inl h
        · exact .inr (.inr h)
    · split
      · rw [List.mem_cons]
      · have e : a = x := cmpL_total (by assumption) (by assumption)
        rw [e]
        simp
theorem put_strict {l : List (List Int)} {x : List Int} (h : StrictL l) : StrictL (putF l x) := by
  induction l with
  | nil => exact List.pairwise_singleton _ _
  | cons a t ih =>
    obtain ⟨h1, h2⟩ := List.pairwise_cons.1 h
    unfold putF
    split
    · refine List.pairwise_cons.2 ⟨fun y hy => ?_, ih h2⟩
      rcases mem_putF.1 hy with rfl | hy
      · assumption
      · exact h1 y hy
    · split
      · refine List.pairwise_cons.2 ⟨fun y hy => ?_, h⟩
        rcases List.mem_cons.1 hy with rfl | hy
        · assumption
        · exact cmpL_trans (by assumption) (h1 y hy)
      · exact h
/-- All of a list put in, one after the other. -/
def putAll (T : List (List Int)) : List (List Int) := T.foldl putF []
theorem putAll_mem {T : List (List Int)} {y : List Int} : y ∈ putAll T ↔ y ∈ T := by
  unfold putAll
  suffices ∀ l, y ∈ T.foldl putF l ↔ y ∈ T ∨ y ∈ l by simpa using this []
  induction T with
  | nil => simp
  | cons a T ih =>
    intro l
    rw [List.foldl_cons, ih, mem_putF, List.mem_cons]
    constructor
    · rintro (h | h | h)
      · exact .inl (.inr h)
      · exact .inl (.inl h)
      · exact .inr h
    · rintro ((h | h) | h)
      · exact .inr (.inl h)
      · exact .inl h
      · exact .inr (.inr h)
theorem putAll_strict (T : List (List Int)) : StrictL (putAll T) := by
  unfold putAll
  suffices ∀ l, StrictL l → StrictL (T.foldl putF l) from this [] List.Pairwise.nil
  induction T with
  | nil => exact fun l h => h
  | cons a T ih => exact fun l h => ih _ (put_strict h)
/-- slices.CompactFunc: of equal neighbours the first. -/
def compF : List (List Int) → List (List Int)
  | [] => []
  | [a] => [a]
  | a :: b :: t => if a = b then compF (a :: t) else a :: compF (b :: t)
termination_by l => l.length
theorem compF_mem : ∀ (n : Nat) (l : List (List Int)), l.length ≤ n → ∀ y, y ∈ compF l ↔ y ∈ l
  | _, [], _, y => by simp [compF]
  | _, [a], _, y => by simp [compF]
  | 0, _ :: _ :: _, h, _ => by simp at h
  | n + 1, a :: b :: t, h, y => by
    unfold compF
    simp only [List.length_cons] at h
    split
    · rename_i e
      subst e
      rw [compF_mem n (a :: t) (by simp; omega)]
      simp
    · rw [List.mem_cons, compF_mem n (b :: t) (by simp; omega)]
      simp
theorem compF_strict : ∀ (n : Nat) (l : List (List Int)), l.length ≤ n → (l.Pairwise fun a b => ¬ cmpL b a < 0) → StrictL (compF l)
  | _, [], _, _ => by unfold compF; exact List.Pairwise.nil
  | _, [a], _, _ => by unfold compF; exact List.pairwise_singleton _ _
  | 0, _ :: _ :: _, h, _ => by simp at h
  | n + 1, a :: b :: t, h, hs => by
    unfold compF
    simp only [List.length_cons] at h
    obtain ⟨h1, h2⟩ := List.pairwise_cons.1 hs
    split
    · rename_i e
      subst e
      exact compF_strict n (a :: t) (by simp; omega) h2
    · rename_i hne
      refine List.pairwise_cons.2 ⟨fun y hy => ?_, compF_strict n (b :: t) (by simp; omega) h2⟩
      have hy := (compF_mem n (b :: t) (by simp; omega) y).1 hy
      have hab : cmpL a b < 0 := by
        have h3 := h1 b (by simp)
        rw [cmpL_neg] at h3
        have h4 : cmpL a b ≠ 0 := fun e => hne (cmpL_zero.1 e)
        omega
      rcases List.mem_cons.1 hy with rfl | hy
      · exact hab
      · obtain ⟨h5, _⟩ := List.pairwise_cons.1 h2
        have h6 := h5 y hy
        rw [cmpL_neg] at h6
        by_cases h7 : cmpL b y = 0
        · rw [← cmpL_zero.1 h7]; exact hab
        · exact cmpL_trans hab (by omega)
/-- Sorted and each once is put in one after the other. -/
theorem comp_put {l T : List (List Int)} (hs : l.Pairwise fun a b => ¬ cmpL b a < 0) (hm : ∀ y, y ∈ l ↔ y ∈ T) : compF l = putAll T :=
  strict_eq (compF_strict _ l (Nat.le_refl _) hs) (putAll_strict T) fun y => by rw [compF_mem _ l (Nat.le_refl _), hm, putAll_mem]
/-! ### the orders -/
def ordF (n : Nat) : Nat → List Nat → List (List Nat)
  | 0, l => [l]
  | k + 1, l => (List.range n).flatMap fun x => if x ∈ l then [] else ordF n k (l ++ [x])
theorem mem_ordF {n : Nat} : ∀ (k : Nat) (l : List Nat), l.length + k = n → l.Nodup → (∀ x ∈ l, x < n) → ∀ m, m ∈ ordF n k l ↔ m.length = n ∧ m.Nodup ∧ (∀ x ∈ m, x < n) ∧ m.take l.length = l
  | 0, l, hl, hn, hx, m => by
    rw [ordF, List.mem_singleton]
    constructor
    · rintro rfl
      exact ⟨by omega, hn, hx, List.take_of_length_le (Nat.le_refl _)⟩
    · rintro ⟨h1, _, _, h4⟩
      rw [List.take_of_length_le (by omega)] at h4
      exact h4
  | k + 1, l, hl, hn, hx, m => by
    rw [ordF, List.mem_flatMap]
    constructor
    · rintro ⟨x, hxr, h⟩
      have hxr := List.mem_range.1 hxr
      split at h
      · cases h
      · rename_i hnl
        obtain ⟨h1, h2, h3, h4⟩ := (mem_ordF k (l ++ [x]) (by simp; omega) (List.nodup_append.2 ⟨hn, by simp, fun a ha b hb e => hnl (by rw [List.mem_singleton] at hb; rw [← hb, ← e]; exact ha)⟩) (fun y hy => by
          rcases List.mem_append.1 hy with hy | hy
          · exact hx y hy
          · rw [List.mem_singleton] at hy; omega) m).1 h
        refine ⟨h1, h2, h3, ?_⟩
        have e : (m.take (l ++ [x]).length).take l.length = (l ++ [x]).take l.length := by rw [h4]
        rw [List.take_take, List.take_append_of_le_length (Nat.le_refl _), List.take_of_length_le (Nat.le_refl l.length)] at e
        rw [show min l.length (l ++ [x]).length = l.length by simp] at e
        exact e
    · rintro ⟨h1, h2, h3, h4⟩
      have hlt : l.length < m.length := by omega
      have hsp : m.take (l.length + 1) = l ++ [m[l.length]] := by rw [List.take_succ_eq_append_getElem hlt, h4]
      have hnd : (l ++ [m[l.length]]).Nodup := by rw [← hsp]; exact h2.sublist (List.take_sublist _ _)
      have hnl : m[l.length] ∉ l := fun h => by
        rw [List.nodup_append] at hnd
        exact hnd.2.2 _ h _ (List.mem_singleton.2 rfl) rfl
      refine ⟨m[l.length], List.mem_range.2 (h3 _ (List.getElem_mem hlt)), ?_⟩
      rw [if_neg hnl]
      refine (mem_ordF k (l ++ [m[l.length]]) (by simp; omega) hnd (fun y hy => by
        rcases List.mem_append.1 hy with hy | hy
        · exact hx y hy
        · rw [List.mem_singleton] at hy; rw [hy]; exact h3 _ (List.getElem_mem hlt)) m).2 ⟨h1, h2, h3, ?_⟩
      rw [List.length_append, List.length_singleton]
      exact hsp
theorem ordF_len (n : Nat) : ∀ (k : Nat) (l : List Nat), (ordF n k l).length ≤ n ^ k
  | 0, _ => by simp [ordF]
  | k + 1, l => by
    have h : ∀ m, ((List.range m).flatMap fun x => if x ∈ l then [] else ordF n k (l ++ [x])).length ≤ m * n ^ k := by
      intro m
      induction m with
      | zero => simp
      | succ m ih =>
        rw [List.range_succ, List.flatMap_append, List.length_append, Nat.succ_mul]
        have : ((if m ∈ l then [] else ordF n k (l ++ [m]))).length ≤ n ^ k := by
          split
          · simp
          · exact ordF_len n k _
        simp only [List.flatMap_cons, List.flatMap_nil, List.append_nil]
        omega
    have := h n
    rw [Nat.pow_succ, Nat.mul_comm]
    exact this
end Go.Proofs.YtmepndnckcpgjaaGreat
