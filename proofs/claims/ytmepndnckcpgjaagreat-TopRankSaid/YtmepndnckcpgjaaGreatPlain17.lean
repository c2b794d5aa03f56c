/- Plain laws: the corners as lists. No condition. -/
import Derived.Test.YtmepndnckcpgjaaGreatPlain
import Derived.Test.YtmepndnckcpgjaaGreatPlain15
namespace Go.Proofs.YtmepndnckcpgjaaGreat
/-- What each order gives. -/
def gsL (n : Nat) (xs : List Int) : List (List Int) := (ordF n n []).map (greedyL n xs)
def crnL (n : Nat) (xs : List Int) : List (List Int) := putAll (gsL n xs)
def cornersL (n : Int) (xs : List Int) : List (List Int) := if asked n xs = 0 then crnL n.toNat xs else []
def putTo (T : List (List Int)) (i : Nat) : List (List Int) := (T.take i).foldl putF []
theorem putTo_zero (T : List (List Int)) : putTo T 0 = [] := rfl
theorem putTo_succ {T : List (List Int)} {i : Nat} (h : i < T.length) : putTo T (i + 1) = putF (putTo T i) (T.getD i []) := by
  unfold putTo
  rw [List.take_succ_eq_append_getElem h, List.foldl_append]
  simp [List.getD_eq_getElem?_getD, h]
theorem putTo_all (T : List (List Int)) : putTo T T.length = putAll T := by unfold putTo putAll; rw [List.take_length]
theorem putTo_mem {T : List (List Int)} {i : Nat} {y : List Int} (h : y ∈ putTo T i) : y ∈ T := List.mem_of_mem_take (putAll_mem.1 (show y ∈ putAll (T.take i) from h))
theorem putF_len (l : List (List Int)) (x : List Int) : (putF l x).length ≤ l.length + 1 ∧ 1 ≤ (putF l x).length := by
  induction l with
  | nil => simp [putF]
  | cons a t ih =>
    unfold putF
    split
    · simp; exact ih.1
    · split <;> simp
theorem putTo_len (T : List (List Int)) : ∀ i, (putTo T i).length ≤ i
  | 0 => by simp [putTo]
  | i + 1 => by
    rcases Nat.lt_or_ge i T.length with h | h
    · rw [putTo_succ h]
      have := (putF_len (putTo T i) (T.getD i [])).1
      have := putTo_len T i
      omega
    · have e : putTo T (i + 1) = putTo T i := by
        unfold putTo
        rw [List.take_of_length_le (by omega), List.take_of_length_le h]
      rw [e]
      exact Nat.le_trans (putTo_len T i) (by omega)
theorem gsL_len (n : Nat) (xs : List Int) : (gsL n xs).length = (ordF n n []).length := by simp [gsL]
theorem gsL_get {n : Nat} (xs : List Int) {i : Nat} (h : i < (ordF n n []).length) : (gsL n xs).getD i [] = greedyL n xs ((ordF n n []).getD i []) := by
  simp [gsL, List.getD_eq_getElem?_getD, h]
theorem ord_mem {n : Nat} {m : List Nat} : m ∈ ordF n n [] ↔ m.length = n ∧ m.Nodup ∧ ∀ x ∈ m, x < n := by
  rw [mem_ordF n [] (by simp) List.nodup_nil (by simp)]
  simp
theorem ord_getD {n i : Nat} (h : i < (ordF n n []).length) : (ordF n n []).getD i [] ∈ ordF n n [] := by
  rw [List.getD_eq_getElem?_getD, List.getElem?_eq_getElem h]
  exact List.getElem_mem h
theorem gsL_row {n : Nat} {xs y : List Int} (h : y ∈ gsL n xs) : y.length = n := by
  unfold gsL at h
  rw [List.mem_map] at h
  obtain ⟨o, _, rfl⟩ := h
  exact greedyL_len _ _ _
theorem ord_many {n : Nat} (hn : n ≤ 6) : (ordF n n []).length ≤ 46656 := Nat.le_trans (ordF_len n n []) (Nat.le_trans (Nat.pow_le_pow_left hn n) (Nat.le_trans (Nat.pow_le_pow_right (by decide) hn) (by decide)))
end Go.Proofs.YtmepndnckcpgjaaGreat
