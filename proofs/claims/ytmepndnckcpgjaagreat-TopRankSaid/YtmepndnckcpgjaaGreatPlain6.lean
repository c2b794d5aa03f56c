/- Plain laws: hedges and what they cost. No condition. -/
import Derived.Test.YtmepndnckcpgjaaGreatPlain4
namespace Go.Proofs.YtmepndnckcpgjaaGreat

def hA (h : List Int) : Int := h.getD 0 0
def hB (h : List Int) : Int := h.getD 1 0
def hC (h : List Int) : Int := h.getD 2 0
def hedgeOk (n : Int) (h : List Int) : Bool := decide (h.length = 3) && (decide (0 ≤ hA h) && (decide (hA h < n) && (decide (0 ≤ hB h) && (decide (hB h < n) && (!decide (hA h = hB h) && (decide (0 ≤ hC h) && decide (hC h ≤ 1000)))))))
theorem hedge_good {n : Int} {h : List Int} (hb : hedgeOk n h = true) : h.length = 3 ∧ 0 ≤ hA h ∧ hA h < n ∧ 0 ≤ hB h ∧ hB h < n ∧ hA h ≠ hB h ∧ 0 ≤ hC h ∧ hC h ≤ 1000 := by
  simpa [hedgeOk] using hb
theorem hedge_bad {n : Int} {h : List Int} (hb : hedgeOk n h = false) : h.length ≠ 3 ∨ (h.length = 3 ∧ (hA h < 0 ∨ (0 ≤ hA h ∧ n ≤ hA h) ∨ (0 ≤ hA h ∧ hA h < n ∧ hB h < 0) ∨ (0 ≤ hA h ∧ hA h < n ∧ 0 ≤ hB h ∧ n ≤ hB h) ∨
    (0 ≤ hA h ∧ hA h < n ∧ 0 ≤ hB h ∧ hB h < n ∧ hA h = hB h) ∨ (0 ≤ hA h ∧ hA h < n ∧ 0 ≤ hB h ∧ hB h < n ∧ hA h ≠ hB h ∧ hC h < 0) ∨ (0 ≤ hA h ∧ hA h < n ∧ 0 ≤ hB h ∧ hB h < n ∧ hA h ≠ hB h ∧ 0 ≤ hC h ∧ 1000 < hC h))) := by
  have hn : ¬ (h.length = 3 ∧ 0 ≤ hA h ∧ hA h < n ∧ 0 ≤ hB h ∧ hB h < n ∧ hA h ≠ hB h ∧ 0 ≤ hC h ∧ hC h ≤ 1000) := fun hg => by
    have : hedgeOk n h = true := by simpa [hedgeOk] using hg
    rw [this] at hb; cases hb
  omega
def hedgesOk (n : Int) (hs : List (List Int)) : Bool := hs.all (hedgeOk n)
theorem hedgesOk_bad {n : Int} {hs : List (List Int)} {k : Nat} (hk : k < hs.length) (h : hedgeOk n (hs.getD k []) = false) : hedgesOk n hs = false := by
  unfold hedgesOk
  rw [List.all_eq_false]
  refine ⟨hs[k], List.getElem_mem hk, ?_⟩
  simp only [List.getD_eq_getElem?_getD, List.getElem?_eq_getElem hk, Option.getD_some] at h
  simp [h]
theorem hedgesOk_all {n : Int} {hs : List (List Int)} (h : ∀ k, k < hs.length → hedgeOk n (hs.getD k []) = true) : hedgesOk n hs = true := by
  unfold hedgesOk
  rw [List.all_eq_true]
  intro x hx
  obtain ⟨j, hj, rfl⟩ := List.getElem_of_mem hx
  have := h j hj
  simpa [List.getD_eq_getElem?_getD, hj] using this
theorem hedgesOk_at {n : Int} {hs : List (List Int)} (h : hedgesOk n hs = true) {k : Nat} (hk : k < hs.length) : hedgeOk n (hs.getD k []) = true := by
  unfold hedgesOk at h
  rw [List.all_eq_true] at h
  have := h _ (List.getElem_mem hk)
  simpa [List.getD_eq_getElem?_getD, hk] using this
def cutErr (n : Int) (hs : List (List Int)) : Int := if 1 ≤ n ∧ n ≤ 6 then (if 20 < hs.length then 3 else if hedgesOk n hs then 0 else 2) else 2
/-- What one hedge costs a group. -/
def cut1 (h : List Int) (g : Nat) : Int := if g.testBit (hA h).toNat = g.testBit (hB h).toNat then 0 else hC h
def cutTo (hs : List (List Int)) (g : Nat) : Nat → Int
  | 0 => 0
  | k + 1 => cutTo hs g k + cut1 (hs.getD k []) g
def cutAt (hs : List (List Int)) (g : Nat) : Int := cutTo hs g hs.length
def cutL (n : Nat) (hs : List (List Int)) : List Int := (List.range (2 ^ n)).map (cutAt hs)
def cutR (n : Int) (hs : List (List Int)) : List Int := if cutErr n hs = 0 then cutL n.toNat hs else []
theorem cutL_len (n : Nat) (hs : List (List Int)) : (cutL n hs).length = 2 ^ n := by simp [cutL]
theorem cutL_pre (n : Nat) (hs : List (List Int)) : preTo (cutAt hs) (2 ^ n) (2 ^ n) = cutL n hs := by
  unfold preTo cutL
  apply List.map_congr_left
  intro i hi
  rw [List.mem_range] at hi
  rw [if_pos hi]
theorem preTo_same (f : Nat → Int) (n k : Nat) : (preTo f n k).set k 0 = preTo f n k := by
  apply List.ext_getElem
  · simp
  · intro i h1 h2
    simp only [preTo, List.getElem_set, List.getElem_map, List.getElem_range]
    by_cases h : k = i
    · subst h; simp
    · rw [if_neg h]
theorem cut1_in {n : Int} {h : List Int} (hb : hedgeOk n h = true) (g : Nat) : 0 ≤ cut1 h g ∧ cut1 h g ≤ 1000 := by
  obtain ⟨_, _, _, _, _, _, h1, h2⟩ := hedge_good hb
  unfold cut1
  split <;> omega
theorem cutTo_in {n : Int} {hs : List (List Int)} (hb : hedgesOk n hs = true) (g k : Nat) (hk : k ≤ hs.length) : 0 ≤ cutTo hs g k ∧ cutTo hs g k ≤ 1000 * (k : Int) := by
  induction k with
  | zero => simp [cutTo]
  | succ k ih =>
    have h1 := ih (by omega)
    have h2 := cut1_in (hedgesOk_at hb (by omega : k < hs.length)) g
    have e : cutTo hs g (k + 1) = cutTo hs g k + cut1 (hs.getD k []) g := rfl
    rw [e]; omega
end Go.Proofs.YtmepndnckcpgjaaGreat
