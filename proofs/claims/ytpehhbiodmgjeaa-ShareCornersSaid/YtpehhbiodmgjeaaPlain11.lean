/- Plain laws: gardeners sorted by weight, by insertion; the dearest sharing. No condition. -/
import Derived.Test.YtpehhbiodmgjeaaPlain4
namespace Go.Proofs.Ytpehhbiodmgjeaa

/-- The order in which the last one comes first, as numbers. -/
def revL (n k : Nat) : List Int := (List.range k).map fun (t : Nat) => (n : Int) - 1 - (t : Int)
def wv (ws : List Int) (x : Int) : Int := ws.getD x.toNat 0
def swp (l : List Int) (k : Nat) : List Int := (l.set (k + 1) (l.getD k 0)).set k (l.getD (k + 1) 0)
def sift (ws : List Int) (l : List Int) : Nat → List Int
  | 0 => l
  | k + 1 => if wv ws (l.getD k 0) < wv ws (l.getD (k + 1) 0) then sift ws (swp l k) k else l
theorem swp_len (l : List Int) (k : Nat) : (swp l k).length = l.length := by simp [swp]
theorem swp_succ (x : Int) (t : List Int) (k : Nat) : swp (x :: t) (k + 1) = x :: swp t k := by simp [swp]
theorem swp_perm (l : List Int) (k : Nat) (hk : k + 1 < l.length) : (swp l k).Perm l := by
  induction k generalizing l with
  | zero =>
    match l, hk with
    | a :: b :: t, _ => exact List.Perm.swap a b t
  | succ k ih =>
    match l, hk with
    | a :: t, hk => rw [swp_succ]; exact (ih t (by simpa using hk)).cons a
theorem sift_len (ws l : List Int) (k : Nat) : (sift ws l k).length = l.length := by
  induction k generalizing l with
  | zero => rfl
  | succ k ih =>
    unfold sift
    split
    · rw [ih, swp_len]
    · rfl
theorem sift_perm (ws l : List Int) (k : Nat) (hk : k < l.length) : (sift ws l k).Perm l := by
  induction k generalizing l with
  | zero => exact List.Perm.refl _
  | succ k ih =>
    unfold sift
    split
    · exact (ih _ (by rw [swp_len]; omega)).trans (swp_perm l k hk)
    · exact List.Perm.refl _
theorem getD_app (a b : List Int) (k : Nat) (hk : k < a.length) : (a ++ b).getD k 0 = a.getD k 0 := by
  simp [List.getD_eq_getElem?_getD, List.getElem?_append_left hk]
theorem swp_app (a b : List Int) (k : Nat) (hk : k + 1 < a.length) : swp (a ++ b) k = swp a k ++ b := by
  unfold swp
  rw [getD_app a b k (by omega), getD_app a b (k + 1) hk, List.set_append_left _ _ hk, List.set_append_left _ _ (by rw [List.length_set]; omega)]
theorem sift_app (ws a b : List Int) (k : Nat) (hk : k < a.length) : sift ws (a ++ b) k = sift ws a k ++ b := by
  induction k generalizing a with
  | zero => rfl
  | succ k ih =>
    unfold sift
    rw [getD_app a b k (by omega), getD_app a b (k + 1) hk, swp_app a b k hk]
    split
    · exact ih _ (by rw [swp_len]; omega)
    · rfl
/-- The specification's order after t gardeners have come. -/
def ordR (ws : List Int) (n : Nat) : Nat → List Int
  | 0 => []
  | t + 1 => sift ws (ordR ws n t ++ [(n : Int) - 1 - (t : Int)]) t
theorem ordR_len (ws : List Int) (n t : Nat) : (ordR ws n t).length = t := by
  induction t with
  | zero => rfl
  | succ t ih => simp [ordR, sift_len, ih]
/-- The program's: sorted in place. -/
def arr (ws : List Int) (n i : Nat) : List Int := ordR ws n i ++ (revL n n).drop i
theorem revL_drop (n i : Nat) (hi : i < n) : (revL n n).drop i = ((n : Int) - 1 - (i : Int)) :: (revL n n).drop (i + 1) := by
  rw [List.drop_eq_getElem_cons (by simp [revL]; exact hi)]
  simp [revL]
theorem arr_succ (ws : List Int) (n i : Nat) (hi : i < n) : sift ws (arr ws n i) i = arr ws n (i + 1) := by
  have e : arr ws n i = (ordR ws n i ++ [(n : Int) - 1 - (i : Int)]) ++ (revL n n).drop (i + 1) := by
    unfold arr
    rw [revL_drop n i hi, List.append_assoc]; rfl
  rw [e, sift_app _ _ _ _ (by rw [List.length_append, ordR_len]; simp)]
  rfl
theorem arr_one (ws : List Int) (n : Nat) (hn : 1 ≤ n) : arr ws n 1 = revL n n := by
  have h := revL_drop n 0 (by omega)
  rw [List.drop_zero] at h
  rw [h]
  simp [arr, ordR, sift]
theorem arr_all (ws : List Int) (n : Nat) : arr ws n n = ordR ws n n := by
  unfold arr
  rw [List.drop_of_length_le (by simp [revL]), List.append_nil]
theorem arr_len (ws : List Int) (n i : Nat) (hi : i ≤ n) : (arr ws n i).length = n := by
  unfold arr
  rw [List.length_append, ordR_len, List.length_drop]
  simp [revL]; omega
/-- All are gardeners. -/
def InR (n : Nat) (l : List Int) : Prop := ∀ x ∈ l, 0 ≤ x ∧ x < (n : Int)
theorem InR.at_ {n : Nat} {l : List Int} (h : InR n l) (k : Nat) (hk : k < l.length) : 0 ≤ l.getD k 0 ∧ l.getD k 0 < (n : Int) := by
  have := h _ (List.getElem_mem hk)
  simpa [List.getD_eq_getElem?_getD, hk] using this
theorem InR.perm {n : Nat} {l m : List Int} (h : InR n l) (hp : m.Perm l) : InR n m := fun x hx => h x (hp.mem_iff.1 hx)
theorem InR.swp {n : Nat} {l : List Int} (h : InR n l) (k : Nat) (hk : k + 1 < l.length) : InR n (swp l k) := h.perm (swp_perm l k hk)
theorem revL_perm (ws : List Int) (n t : Nat) : (ordR ws n t).Perm (revL n t) := by
  induction t with
  | zero => exact List.Perm.refl _
  | succ t ih =>
    have e : revL n (t + 1) = revL n t ++ [(n : Int) - 1 - (t : Int)] := by simp [revL, List.range_succ]
    rw [e]
    exact (sift_perm ws _ t (by rw [List.length_append, ordR_len]; simp)).trans (ih.append_right _)
theorem revL_in (n t : Nat) (ht : t ≤ n) : InR n (revL n t) := fun x hx => by
  obtain ⟨i, hi, rfl⟩ := List.mem_map.1 hx
  rw [List.mem_range] at hi
  omega
theorem ordR_in (ws : List Int) (n t : Nat) (ht : t ≤ n) : InR n (ordR ws n t) := (revL_in n t ht).perm (revL_perm ws n t)
theorem arr_perm (ws : List Int) (n i : Nat) (hi : i ≤ n) : (arr ws n i).Perm (revL n n) := by
  have e : revL n n = revL n i ++ (revL n n).drop i := by
    have h1 : (revL n n).take i = revL n i := by simp [revL, ← List.map_take, List.take_range, Nat.min_eq_left hi]
    rw [← h1, List.take_append_drop]
  conv => rhs; rw [e]
  exact (revL_perm ws n i).append_right _
theorem revL_nodup : ∀ n, n ≤ 6 → ((revL n n).map Int.toNat).Nodup := by decide
theorem ordR_nodup (ws : List Int) (n : Nat) (hn : n ≤ 6) : ((ordR ws n n).map Int.toNat).Nodup :=
  ((revL_perm ws n n).map Int.toNat).nodup_iff.2 (revL_nodup n hn)

/-! ### the sharing -/
theorem gTo_in (n : Nat) (xs : List Int) (hb : Bnd xs) (ord : List Nat) (k j : Nat) : -2000000 ≤ (gTo n xs ord k).1.getD j 0 ∧ (gTo n xs ord k).1.getD j 0 ≤ 2000000 := by
  unfold gTo
  generalize ord.take k = l
  suffices ∀ s : List Int × Nat, (-2000000 ≤ s.1.getD j 0 ∧ s.1.getD j 0 ≤ 2000000) → -2000000 ≤ (l.foldl (gstep xs) s).1.getD j 0 ∧ (l.foldl (gstep xs) s).1.getD j 0 ≤ 2000000 by
    refine this _ ?_
    by_cases hj : j < n
    · simp [List.getD_eq_getElem?_getD, hj]
    · simp [List.getD_eq_getElem?_getD, hj]
  induction l with
  | nil => intro s hs; exact hs
  | cons a l ih =>
    intro s hs
    rw [List.foldl_cons]
    refine ih _ ?_
    unfold gstep
    have h1 := hb (s.2 ||| 2 ^ a)
    have h2 := hb s.2
    by_cases hja : a = j
    · by_cases hlt : j < s.1.length
      · subst hja
        simp only [List.getD_eq_getElem?_getD, List.getElem?_set_self hlt, Option.getD_some]
        simp only [List.getD_eq_getElem?_getD] at h1 h2
        omega
      · have hno : (s.1.set a (xs.getD (s.2 ||| 2 ^ a) 0 - xs.getD s.2 0)).length ≤ j := by rw [List.length_set]; omega
        rw [List.getD_eq_getElem?_getD, List.getElem?_eq_none hno, Option.getD_none]
        omega
    · simp only [List.getD_eq_getElem?_getD, List.getElem?_set_ne hja]
      simpa [List.getD_eq_getElem?_getD] using hs
theorem greedyL_in (n : Nat) (xs : List Int) (hb : Bnd xs) (ord : List Nat) (j : Nat) : -2000000 ≤ (greedyL n xs ord).getD j 0 ∧ (greedyL n xs ord).getD j 0 ≤ 2000000 := gTo_in n xs hb ord _ j
def dotTo (l ws : List Int) : Nat → Int
  | 0 => 0
  | k + 1 => dotTo l ws k + l.getD k 0 * ws.getD k 0
theorem mul_in {x y : Int} (hx : -2000000 ≤ x ∧ x ≤ 2000000) (hy : 0 ≤ y ∧ y ≤ 1000) : -2000000000 ≤ x * y ∧ x * y ≤ 2000000000 := by
  constructor
  · have h1 : 0 ≤ (x + 2000000) * y := Int.mul_nonneg (by omega) (by omega)
    rw [Int.add_mul] at h1
    omega
  · have h1 : 0 ≤ (2000000 - x) * y := Int.mul_nonneg (by omega) (by omega)
    rw [Int.sub_mul] at h1
    omega
theorem dotTo_in (l ws : List Int) (hl : ∀ j, -2000000 ≤ l.getD j 0 ∧ l.getD j 0 ≤ 2000000) (hw : ∀ j, 0 ≤ ws.getD j 0 ∧ ws.getD j 0 ≤ 1000) (k : Nat) : -2000000000 * (k : Int) ≤ dotTo l ws k ∧ dotTo l ws k ≤ 2000000000 * (k : Int) := by
  induction k with
  | zero => simp [dotTo]
  | succ k ih =>
    have := mul_in (hl k) (hw k)
    have e : dotTo l ws (k + 1) = dotTo l ws k + l.getD k 0 * ws.getD k 0 := rfl
    rw [e]
    omega
def dearL (n : Nat) (xs ws : List Int) : List Int := greedyL n xs ((ordR ws n n).map Int.toNat)
def dearErr (n : Int) (xs ws : List Int) : Int := if asked n xs = 0 then (if wOk n.toNat ws then 0 else 2) else asked n xs
def dearR (n : Int) (xs ws : List Int) : List Int := if dearErr n xs ws = 0 then dearL n.toNat xs ws else []
def dearS (n : Int) (xs ws : List Int) : Int := if dearErr n xs ws = 0 then dotTo (dearL n.toNat xs ws) ws n.toNat else 0
end Go.Proofs.Ytpehhbiodmgjeaa
