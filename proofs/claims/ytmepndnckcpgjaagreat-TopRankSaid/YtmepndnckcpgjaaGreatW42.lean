/- Walks: the specification's orders. -/
import Derived.Test.YtmepndnckcpgjaaGreatBase7
import Derived.Test.YtmepndnckcpgjaaGreatPlain15
import Derived.Deep.Cut
namespace Go.Proofs.YtmepndnckcpgjaaGreat
open Go.RowKit
/-! ### plain -/
def inTo (l : List Nat) (x i : Nat) : Bool := decide (x ∈ l.take i)
theorem inTo_zero (l : List Nat) (x : Nat) : inTo l x 0 = false := by simp [inTo]
theorem inTo_succ {l : List Nat} {x i : Nat} (h : i < l.length) : inTo l x (i + 1) = (inTo l x i || decide (l.getD i 0 = x)) := by
  unfold inTo
  rw [List.take_succ_eq_append_getElem h]
  have e : l.getD i 0 = l[i] := by simp [List.getD_eq_getElem?_getD, h]
  rw [e, Bool.eq_iff_iff]
  simp only [List.mem_append, List.mem_singleton, decide_eq_true_eq, Bool.or_eq_true]
  constructor
  · rintro (h | h)
    · exact .inl h
    · exact .inr h.symm
  · rintro (h | h)
    · exact .inl h
    · exact .inr h.symm
theorem inTo_all (l : List Nat) (x : Nat) : inTo l x l.length = decide (x ∈ l) := by simp [inTo]
def ordC (n k : Nat) (l : List Nat) (x : Nat) : List (List Nat) := if x ∈ l then [] else ordF n k (l ++ [x])
def ordTo (n k : Nat) (l : List Nat) (x : Nat) : List (List Nat) := (List.range x).flatMap fun x => ordC n k l x
theorem ordTo_zero (n k : Nat) (l : List Nat) : ordTo n k l 0 = [] := rfl
theorem ordTo_succ (n k : Nat) (l : List Nat) (x : Nat) : ordTo n k l (x + 1) = ordTo n k l x ++ ordC n k l x := by
  unfold ordTo; rw [List.range_succ, List.flatMap_append]; simp
theorem ordF_to (n k : Nat) (l : List Nat) : ordF n (k + 1) l = ordTo n k l n := rfl
theorem ordTo_len {n : Nat} (k : Nat) (l : List Nat) {x : Nat} (h : x ≤ n) : (ordTo n k l x).length ≤ n ^ (k + 1) := by
  have h1 := ordF_len n (k + 1) l
  rw [ordF_to] at h1
  refine Nat.le_trans ?_ h1
  have : ∀ d, x ≤ d → (ordTo n k l x).length ≤ (ordTo n k l d).length := by
    intro d hd
    induction d with
    | zero => obtain rfl : x = 0 := by omega
              exact Nat.le_refl _
    | succ d ih =>
      rcases Nat.lt_or_ge d x with h | h
      · obtain rfl : x = d + 1 := by omega
        exact Nat.le_refl _
      · rw [ordTo_succ, List.length_append]
        have := ih h
        omega
  exact this n h
theorem pow66 {n k : Nat} (hn : n ≤ 6) (hk : k ≤ n) : n ^ k ≤ 46656 :=
  Nat.le_trans (Nat.pow_le_pow_left hn k) (Nat.le_trans (Nat.pow_le_pow_right (by decide) (show k ≤ 6 by omega)) (by decide))
theorem map_zs_app (a b : List (List Nat)) : (a ++ b).map zs = a.map zs ++ b.map zs := List.map_append
section
variable (n : Nat)
end
end Go.Proofs.YtmepndnckcpgjaaGreat
