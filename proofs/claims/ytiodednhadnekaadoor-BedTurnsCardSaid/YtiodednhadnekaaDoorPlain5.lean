/- Plain laws: the transversals of a bed, in order. No condition. -/
import Derived.Test.YtiodednhadnekaaDoorPlain4
namespace Go.Proofs.YtiodednhadnekaaDoor
def zs (l : List Nat) : List Int := l.map Int.ofNat
theorem zs_len (l : List Nat) : (zs l).length = l.length := by simp [zs]
theorem zs_get (l : List Nat) (i : Nat) : (zs l).getD i 0 = (l.getD i 0 : Int) := by
  simp only [zs, List.getD_eq_getElem?_getD, List.getElem?_map]
  cases l[i]? <;> rfl
theorem zs_app (l m : List Nat) : zs (l ++ m) = zs l ++ zs m := by simp [zs]
/-- The columns that are taken, and the crops. -/
def colsM (l : List Nat) : Nat := orN (fun i => 2 ^ l.getD i 0) l.length
def cropsM (b : List (List Int)) (l : List Nat) : Nat := orN (fun i => 2 ^ (gAt b i (l.getD i 0)).toNat) l.length
theorem getD_app1 {l : List Nat} {i : Nat} (h : i < l.length) (c : Nat) : (l ++ [c]).getD i 0 = l.getD i 0 := by
  simp [List.getD_eq_getElem?_getD, List.getElem?_append_left h]
theorem getD_app2 (l : List Nat) (c : Nat) : (l ++ [c]).getD l.length 0 = c := by simp [List.getD_eq_getElem?_getD]
theorem colsM_app (l : List Nat) (c : Nat) : colsM (l ++ [c]) = colsM l ||| 2 ^ c := by
  unfold colsM
  rw [List.length_append, List.length_singleton, orN, getD_app2, orN_congr fun i hi => by rw [getD_app1 hi]]
theorem cropsM_app (b : List (List Int)) (l : List Nat) (c : Nat) : cropsM b (l ++ [c]) = cropsM b l ||| 2 ^ (gAt b l.length c).toNat := by
  unfold cropsM
  rw [List.length_append, List.length_singleton, orN, getD_app2, orN_congr fun i hi => by rw [getD_app1 hi]]
def okT (b : List (List Int)) (l : List Nat) (c : Nat) : Bool := !(colsM l).testBit c && !(cropsM b l).testBit (gAt b l.length c).toNat
/-- The transversals that begin with some columns. -/
def trF (b : List (List Int)) (n : Nat) : Nat → List Nat → List (List Nat)
  | 0, l => [l]
  | k + 1, l => (List.range n).flatMap fun c => if okT b l c = true then trF b n k (l ++ [c]) else []
def trans (b : List (List Int)) (n : Nat) : List (List Nat) := trF b n n []
def trC (b : List (List Int)) (n k : Nat) (l : List Nat) (c : Nat) : List (List Nat) := if okT b l c = true then trF b n k (l ++ [c]) else []
def trTo (b : List (List Int)) (n k : Nat) (l : List Nat) (c : Nat) : List (List Nat) := (List.range c).flatMap fun c => trC b n k l c
theorem trTo_succ (b : List (List Int)) (n k : Nat) (l : List Nat) (c : Nat) : trTo b n k l (c + 1) = trTo b n k l c ++ trC b n k l c := by
  unfold trTo; rw [List.range_succ, List.flatMap_append]; simp
theorem trTo_zero (b : List (List Int)) (n k : Nat) (l : List Nat) : trTo b n k l 0 = [] := rfl
theorem trF_succ (b : List (List Int)) (n k : Nat) (l : List Nat) : trF b n (k + 1) l = trTo b n k l n := rfl
theorem trTo_pre {b : List (List Int)} {n k : Nat} {l : List Nat} {c d : Nat} (h : c ≤ d) : ∃ t, trTo b n k l d = trTo b n k l c ++ t := by
  induction d with
  | zero => obtain rfl : c = 0 := by omega
            exact ⟨[], by simp⟩
  | succ d ih =>
    rcases Nat.lt_or_ge c (d + 1) with h1 | h1
    · obtain ⟨t, ht⟩ := ih (by omega)
      exact ⟨t ++ trC b n k l d, by rw [trTo_succ, ht, List.append_assoc]⟩
    · obtain rfl : c = d + 1 := by omega
      exact ⟨[], by simp⟩
theorem trF_len (b : List (List Int)) (n : Nat) : ∀ k l, (trF b n k l).length ≤ n ^ k
  | 0, _ => by simp [trF]
  | k + 1, l => by
    have : ∀ m, (trTo b n k l m).length ≤ m * n ^ k := by
      intro m
      induction m with
      | zero => simp [trTo_zero]
      | succ m ih =>
        rw [trTo_succ, List.length_append, Nat.succ_mul]
        have : (trC b n k l m).length ≤ n ^ k := by
          unfold trC; split
          · exact trF_len b n k _
          · simp
        omega
    rw [trF_succ, Nat.pow_succ, Nat.mul_comm]
    exact this n
/-- What is visited, where the visits may end. -/
def vis (stop : Bool) (L : List (List Nat)) : List (List Nat) := if stop = true then L.take 1 else L
def hit (stop : Bool) (L : List (List Nat)) : Bool := stop && !L.isEmpty
theorem vis_hit {stop : Bool} {A C T : List (List Nat)} (hA : stop = true → A = []) (h : hit stop C = true) : vis stop (A ++ C ++ T) = A ++ vis stop C ∧ hit stop (A ++ C ++ T) = true := by
  unfold hit at h
  rw [Bool.and_eq_true] at h
  obtain ⟨rfl, h2⟩ := h
  rw [hA rfl]
  match C, h2 with
  | x :: C, _ => exact ⟨by simp [vis], by simp [hit]⟩
theorem vis_miss {stop : Bool} {C : List (List Nat)} (h : hit stop C = false) : vis stop C = C ∧ (stop = true → C = []) := by
  cases stop
  · exact ⟨rfl, fun h => (by cases h)⟩
  · have : C = [] := by simpa [hit] using h
    subst this
    exact ⟨rfl, fun _ => rfl⟩
theorem vis_none {stop : Bool} {A : List (List Nat)} (hA : stop = true → A = []) : vis stop A = A ∧ hit stop A = false := by
  cases stop
  · exact ⟨rfl, rfl⟩
  · rw [hA rfl]; exact ⟨rfl, rfl⟩
theorem and_pow_zero (C c : Nat) : (((C &&& 2 ^ c : Nat) : Int) == 0) = !C.testBit c := by
  cases h : C.testBit c
  · have : C &&& 2 ^ c = 0 := by
      apply Nat.eq_of_testBit_eq
      intro i
      rw [Nat.testBit_and, Nat.testBit_two_pow, Nat.zero_testBit]
      by_cases e : c = i
      · subst e; simp [h]
      · simp [e]
    rw [this]; rfl
  · have h2 : (C &&& 2 ^ c).testBit c = true := by rw [Nat.testBit_and, h, Nat.testBit_two_pow]; simp
    have : C &&& 2 ^ c ≠ 0 := fun e => by rw [e, Nat.zero_testBit] at h2; cases h2
    simpa using this
end Go.Proofs.YtiodednhadnekaaDoor
