/- Plain: bases, and the greatest weight of one. -/
import Derived.Test.YtmepndnckcpgjaaGreatPlain23
import Derived.Test.YtmepndnckcpgjaaGreatM4
namespace Go.Proofs.YtmepndnckcpgjaaGreat
/-! ### the rank as a list of costs -/
def rkL (n : Nat) (fs : List (Int × Int)) : List Int := (List.range (2 ^ fs.length)).map (rk n fs)
theorem rkL_len (n : Nat) (fs : List (Int × Int)) : (rkL n fs).length = 2 ^ fs.length := by simp [rkL]
theorem rkL_get (n : Nat) (fs : List (Int × Int)) {S : Nat} (h : S < 2 ^ fs.length) : (rkL n fs).getD S 0 = rk n fs S := by simp [rkL, List.getD_eq_getElem?_getD, h]
theorem sizeTo_in (S : Nat) : ∀ k : Nat, 0 ≤ sizeTo S k ∧ sizeTo S k ≤ k
  | 0 => by simp [sizeTo]
  | k + 1 => by
    have := sizeTo_in S k
    unfold sizeTo
    split <;> omega
theorem rkL_in {n : Nat} {fs : List (Int × Int)} (h : garE n fs = 0) (j : Nat) : 0 ≤ (rkL n fs).getD j 0 ∧ (rkL n fs).getD j 0 ≤ fs.length := by
  rcases Nat.lt_or_ge j (2 ^ fs.length) with hj | hj
  · rw [rkL_get n fs hj]
    have := rk_le h j hj
    have := sizeTo_in j fs.length
    omega
  · rw [List.getD_eq_getElem?_getD, List.getElem?_eq_none (by rw [rkL_len]; exact hj)]
    simp
theorem rk_good {n : Nat} {fs : List (Int × Int)} (h : garE n fs = 0) (h1 : 1 ≤ fs.length) (h6 : fs.length ≤ 6) : Good fs.length (rkL n fs) where
  n1 := h1
  n6 := h6
  len := rkL_len n fs
  sub := fun a b ha hb => by
    rw [rkL_len] at ha hb
    rw [rkL_get n fs ha, rkL_get n fs hb, rkL_get n fs (Nat.or_lt_two_pow ha hb), rkL_get n fs (Nat.lt_of_le_of_lt Nat.and_le_left ha)]
    exact rk_sub h a b hb
  zero := by rw [rkL_get n fs (Nat.two_pow_pos _), rk_zero]
  bnd := fun j => by
    have := rkL_in h j
    omega
theorem rk_asked {n : Nat} {fs : List (Int × Int)} (h : garE n fs = 0) (h1 : 1 ≤ fs.length) (h6 : fs.length ≤ 6) : asked (fs.length : Int) (rkL n fs) = 0 := by
  have g := rk_good h h1 h6
  have hc : costOk (fs.length : Int) (rkL n fs) = true := by
    unfold costOk
    simp only [Bool.and_eq_true, decide_eq_true_eq, Int.toNat_natCast, Bool.not_eq_true', List.any_eq_false]
    refine ⟨⟨⟨⟨by omega, by omega⟩, g.len⟩, fun x hx => ?_⟩, g.zero⟩
    obtain ⟨j, hj, rfl⟩ := List.getElem_of_mem hx
    have := rkL_in h j
    rw [List.getD_eq_getElem?_getD, List.getElem?_eq_getElem hj, Option.getD_some] at this
    simp only [outC, Bool.or_eq_true, decide_eq_true_eq, not_or]
    omega
  unfold asked
  rw [if_pos hc, sub_brkT g.sub]
  rfl
/-! ### subsets -/
theorem rk_drop {n : Nat} {fs : List (Int × Int)} (h : garE n fs = 0) {S T : Nat} (hS : S < 2 ^ fs.length) (hT : ∀ j, T.testBit j = true → S.testBit j = true) :
    rk n fs T ≤ rk n fs S ∧ rk n fs S ≤ rk n fs T + (sizeTo S fs.length - sizeTo T fs.length) := by
  have key : ∀ k, k ≤ fs.length → rk n fs T ≤ rk n fs (T ||| S % 2 ^ k) ∧ rk n fs (T ||| S % 2 ^ k) ≤ rk n fs T + (sizeTo S k - sizeTo T k) := by
    intro k
    induction k with
    | zero => intro _; rw [Nat.pow_zero, Nat.mod_one, Nat.or_zero]; simp [sizeTo]
    | succ k ih =>
      intro hk
      have ih := ih (by omega)
      rw [mod_step]
      unfold sizeTo
      by_cases hs : S.testBit k = true
      · rw [if_pos hs, if_pos hs, ← Nat.or_assoc]
        by_cases ht : T.testBit k = true
        · rw [if_pos ht]
          have e : T ||| S % 2 ^ k ||| 2 ^ k = T ||| S % 2 ^ k := by
            apply Nat.eq_of_testBit_eq
            intro j
            rw [Nat.testBit_or, Nat.testBit_or, Nat.testBit_two_pow]
            by_cases e : k = j
            · subst e; rw [ht]; simp
            · simp [e]
          rw [e]
          omega
        · rw [if_neg ht]
          have := rk_step_le h (T ||| S % 2 ^ k) (show k < fs.length by omega)
          omega
      · have ht : ¬ T.testBit k = true := fun e => hs (hT k e)
        rw [if_neg hs, if_neg hs, if_neg ht]
        omega
  have h1 := key fs.length (Nat.le_refl _)
  rw [Nat.mod_eq_of_lt hS] at h1
  have e : T ||| S = S := by
    apply Nat.eq_of_testBit_eq
    intro j
    rw [Nat.testBit_or]
    cases ht : T.testBit j
    · simp
    · rw [hT j ht]; rfl
  rwa [e] at h1
/-- A base: as many fences as its rank, and that of all. -/
def Bas (n : Nat) (fs : List (Int × Int)) (S : Nat) : Prop := sizeTo S fs.length = rk n fs S ∧ sizeTo S fs.length = rk n fs (2 ^ fs.length - 1)
instance (n : Nat) (fs : List (Int × Int)) (S : Nat) : Decidable (Bas n fs S) := by unfold Bas; infer_instance
/-- A set as a sharing. -/
def indL (S m : Nat) : List Int := (List.range m).map fun i => if S.testBit i = true then 1 else 0
theorem indL_len (S m : Nat) : (indL S m).length = m := by simp [indL]
theorem indL_get (S : Nat) {m i : Nat} (h : i < m) : (indL S m).getD i 0 = if S.testBit i = true then 1 else 0 := by simp [indL, List.getD_eq_getElem?_getD, h]
theorem pay_ind (S T m : Nat) : ∀ k, k ≤ m → payTo (indL S m) T k = sizeTo (T &&& S) k
  | 0, _ => rfl
  | k + 1, hk => by
    have e : payTo (indL S m) T (k + 1) = payTo (indL S m) T k + if T.testBit k then (indL S m).getD k 0 else 0 := rfl
    rw [e, pay_ind S T m k (by omega), indL_get S (by omega), sizeTo, Nat.testBit_and]
    cases T.testBit k <;> cases S.testBit k <;> simp
theorem dot_ind (S m : Nat) (ws : List Int) : ∀ k, k ≤ m → dotTo (indL S m) ws k = payTo ws S k
  | 0, _ => rfl
  | k + 1, hk => by
    have e : payTo ws S (k + 1) = payTo ws S k + if S.testBit k then ws.getD k 0 else 0 := rfl
    rw [dotTo, dot_ind S m ws k (by omega), indL_get S (by omega), e]
    cases S.testBit k <;> simp
theorem tail_all' (m : Nat) : tail m 0 = 2 ^ m - 1 := by unfold tail; rw [Nat.pow_zero]
section
variable {n : Nat} {fs : List (Int × Int)} (h : garE n fs = 0) (h1 : 1 ≤ fs.length) (h6 : fs.length ≤ 6)
include h h1 h6
theorem ind_fair {S : Nat} (hS : S < 2 ^ fs.length) (hb : Bas n fs S) : isFair (rkL n fs) (indL S fs.length) = true := by
  have g := rk_good h h1 h6
  have hp : ∀ a, pay (indL S fs.length) a = sizeTo (a &&& S) fs.length := fun a => by
    unfold pay
    rw [indL_len]
    exact pay_ind S a fs.length fs.length (Nat.le_refl _)
  refine isFair_mk g (fun a ha => ?_) ?_
  · rw [hp, rkL_get n fs ha]
    have k1 := (rk_drop h hS (T := a &&& S) (fun j hj => by rw [Nat.testBit_and, Bool.and_eq_true] at hj; exact hj.2)).2
    have k2 := (rk_drop h ha (T := a &&& S) (fun j hj => by rw [Nat.testBit_and, Bool.and_eq_true] at hj; exact hj.1)).1
    have := hb.1
    omega
  · rw [hp, tail_all', rkL_get n fs (by have := Nat.two_pow_pos fs.length; omega), ← hb.2, Nat.and_comm, Nat.and_two_pow_sub_one_of_lt_two_pow hS]
omit h1 h6 in
theorem greedy01 (ord : List Nat) (ho : ∀ i ∈ ord, i < fs.length) (k j : Nat) : (gTo fs.length (rkL n fs) ord k).1.getD j 0 = 0 ∨ (gTo fs.length (rkL n fs) ord k).1.getD j 0 = 1 := by
  unfold gTo
  have hl : ∀ i ∈ ord.take k, i < fs.length := fun i hi => ho i (List.mem_of_mem_take hi)
  generalize ord.take k = l at *
  suffices ∀ s : List Int × Nat, s.2 < 2 ^ fs.length → (s.1.getD j 0 = 0 ∨ s.1.getD j 0 = 1) → (l.foldl (gstep (rkL n fs)) s).1.getD j 0 = 0 ∨ (l.foldl (gstep (rkL n fs)) s).1.getD j 0 = 1 by
    refine this _ (Nat.two_pow_pos _) (.inl ?_)
    by_cases hj : j < fs.length
    · simp [List.getD_eq_getElem?_getD, hj]
    · simp [List.getD_eq_getElem?_getD, hj]
  induction l with
  | nil => intro s _ hs; exact hs
  | cons a l ih =>
    intro s hlt hs
    rw [List.foldl_cons]
    have ha := hl a (by simp)
    have hlt2 : s.2 ||| 2 ^ a < 2 ^ fs.length := Nat.or_lt_two_pow hlt (Nat.pow_lt_pow_right (by omega) ha)
    refine ih (fun i hi => hl i (by simp [hi])) _ hlt2 ?_
    unfold gstep
    simp only
    rw [rkL_get n fs hlt2, rkL_get n fs hlt]
    have hst := rk_step_le h s.2 ha
    by_cases hja : a = j
    · subst hja
      by_cases hlt3 : a < s.1.length
      · rw [List.getD_eq_getElem?_getD, List.getElem?_set_self hlt3, Option.getD_some]
        omega
      · rw [List.getD_eq_getElem?_getD, List.getElem?_eq_none (by rw [List.length_set]; omega)]
        exact .inl rfl
    · rw [List.getD_eq_getElem?_getD, List.getElem?_set_ne hja, ← List.getD_eq_getElem?_getD]
      exact hs
end
/-- the set of those that pay 1. -/
def setTo (p : List Int) : Nat → Nat
  | 0 => 0
  | k + 1 => if p.getD k 0 = 1 then setTo p k ||| 2 ^ k else setTo p k
theorem setTo_lt (p : List Int) : ∀ k, setTo p k < 2 ^ k
  | 0 => by simp [setTo]
  | k + 1 => by
    have := setTo_lt p k
    have e : 2 ^ (k + 1) = 2 ^ k + 2 ^ k := by rw [Nat.pow_succ]; omega
    unfold setTo
    split
    · exact Nat.or_lt_two_pow (by omega) (by have := Nat.two_pow_pos k; omega)
    · omega
theorem setTo_bit (p : List Int) (j : Nat) : ∀ k, (setTo p k).testBit j = (decide (j < k) && decide (p.getD j 0 = 1))
  | 0 => by simp [setTo]
  | k + 1 => by
    unfold setTo
    by_cases e : j = k
    · subst e
      split
      · rename_i hp
        rw [Nat.testBit_or, Nat.testBit_two_pow_self, Bool.or_true, decide_eq_true hp, decide_eq_true (show j < j + 1 by omega)]
        rfl
      · rename_i hp
        rw [setTo_bit p j j, decide_eq_false hp, Bool.and_false, Bool.and_false]
    · have e2 : decide (j < k + 1) = decide (j < k) := by rw [decide_eq_decide]; omega
      have e3 : ¬ k = j := fun h => e h.symm
      rw [e2]
      split
      · rw [Nat.testBit_or, Nat.testBit_two_pow, setTo_bit p j k]
        simp [e3]
      · exact setTo_bit p j k
theorem pay_set01 {p : List Int} (hp : ∀ j, p.getD j 0 = 0 ∨ p.getD j 0 = 1) (m : Nat) (T : Nat) : ∀ k, k ≤ m → payTo p T k = sizeTo (T &&& setTo p m) k
  | 0, _ => rfl
  | k + 1, hk => by
    have e : payTo p T (k + 1) = payTo p T k + if T.testBit k then p.getD k 0 else 0 := rfl
    rw [e, pay_set01 hp m T k (by omega), sizeTo, Nat.testBit_and, setTo_bit]
    have hkm : decide (k < m) = true := decide_eq_true (by omega)
    rw [hkm]
    rcases hp k with h | h <;> rw [h] <;> cases T.testBit k <;> simp
theorem dot_set01 {p : List Int} (hp : ∀ j, p.getD j 0 = 0 ∨ p.getD j 0 = 1) (ws : List Int) (m : Nat) : ∀ k, k ≤ m → dotTo p ws k = payTo ws (setTo p m) k
  | 0, _ => rfl
  | k + 1, hk => by
    have e : payTo ws (setTo p m) (k + 1) = payTo ws (setTo p m) k + if (setTo p m).testBit k then ws.getD k 0 else 0 := rfl
    rw [dotTo, dot_set01 hp ws m k (by omega), e, setTo_bit]
    have hkm : decide (k < m) = true := decide_eq_true (by omega)
    rw [hkm]
    rcases hp k with h | h <;> rw [h] <;> simp
section
variable {n : Nat} {fs : List (Int × Int)} (h : garE n fs = 0) (h1 : 1 ≤ fs.length) (h6 : fs.length ≤ 6)
include h h1 h6
/-- A fair sharing of numbers 0 and 1 is a base. -/
theorem fair_base {p : List Int} (hl : p.length = fs.length) (hp : ∀ j, p.getD j 0 = 0 ∨ p.getD j 0 = 1) (hf : isFair (rkL n fs) p = true) : Bas n fs (setTo p fs.length) := by
  have g := rk_good h h1 h6
  obtain ⟨f1, f2⟩ := isFair_facts g hf
  have hlt := setTo_lt p fs.length
  have e : ∀ T, pay p T = sizeTo (T &&& setTo p fs.length) fs.length := fun T => by
    unfold pay
    rw [hl]
    exact pay_set01 hp fs.length T fs.length (Nat.le_refl _)
  have k1 := f1 _ hlt
  rw [e, Nat.and_self, rkL_get n fs hlt] at k1
  rw [e, tail_all', rkL_get n fs (by have := Nat.two_pow_pos fs.length; omega), Nat.and_comm, Nat.and_two_pow_sub_one_of_lt_two_pow hlt] at f2
  have k2 := (rk_le h _ hlt).2
  exact ⟨by omega, f2⟩
end
def bstTo (n : Nat) (fs : List (Int × Int)) (ws : List Int) : Nat → Int
  | 0 => 0
  | k + 1 => if Bas n fs k then mx (bstTo n fs ws k) (payTo ws k fs.length) else bstTo n fs ws k
theorem pay_pos {ws : List Int} (hw : ∀ j, 0 ≤ ws.getD j 0 ∧ ws.getD j 0 ≤ 1000) (S : Nat) : ∀ k, 0 ≤ payTo ws S k ∧ payTo ws S k ≤ 1000 * k
  | 0 => by simp [payTo]
  | k + 1 => by
    have e : payTo ws S (k + 1) = payTo ws S k + if S.testBit k then ws.getD k 0 else 0 := rfl
    rw [e]
    have := pay_pos hw S k
    have := hw k
    split <;> omega
theorem bst_in {n : Nat} {fs : List (Int × Int)} {ws : List Int} (hw : ∀ j, 0 ≤ ws.getD j 0 ∧ ws.getD j 0 ≤ 1000) : ∀ k, 0 ≤ bstTo n fs ws k ∧ bstTo n fs ws k ≤ 1000 * fs.length
  | 0 => by simp [bstTo]; omega
  | k + 1 => by
    have h1 := bst_in (n := n) (fs := fs) hw k
    have h2 := pay_pos hw k fs.length
    unfold bstTo mx
    split
    · split <;> omega
    · exact h1
/-- The greatest weight of a base is what the greedy sharing weighs. -/
theorem bst_law {n : Nat} {fs : List (Int × Int)} (h : garE n fs = 0) (h1 : 1 ≤ fs.length) (h6 : fs.length ≤ 6) {ws : List Int} (hwl : ws.length = fs.length) (hw : ∀ j, 0 ≤ ws.getD j 0 ∧ ws.getD j 0 ≤ 1000) :
    bstTo n fs ws (2 ^ fs.length) = fills (rkL n fs) ws := by
  have g := rk_good h h1 h6
  have hp : ∀ j, (dearL fs.length (rkL n fs) ws).getD j 0 = 0 ∨ (dearL fs.length (rkL n fs) ws).getD j 0 = 1 := fun j => by
    refine greedy01 h _ (fun i hi => ?_) _ j
    have o := ordN_ord ws fs.length h6
    obtain ⟨k, hk, rfl⟩ := List.getElem_of_mem (show i ∈ ordN ws fs.length from hi)
    have := o.lt k (by rw [← o.len]; exact hk)
    rwa [List.getD_eq_getElem?_getD, List.getElem?_eq_getElem hk] at this
  have hb := fair_base h h1 h6 dear_len hp (dear_fair g)
  have hd := dear_dot g hwl hw
  rw [dot_set01 hp ws fs.length fs.length (Nat.le_refl _)] at hd
  have hlt := setTo_lt (dearL fs.length (rkL n fs) ws) fs.length
  generalize setTo (dearL fs.length (rkL n fs) ws) fs.length = S at *
  have h0 := (pay_pos hw S fs.length).1
  have up : ∀ k, k ≤ 2 ^ fs.length → bstTo n fs ws k ≤ fills (rkL n fs) ws := by
    intro k
    induction k with
    | zero => intro _; rw [bstTo]; omega
    | succ k ih =>
      intro hk
      have ih := ih (by omega)
      rw [bstTo]
      split
      · rename_i hbk
        have := dot_le g hwl hw (indL_len k fs.length) (ind_fair h h1 h6 (by omega) hbk)
        rw [dot_ind k fs.length ws fs.length (Nat.le_refl _)] at this
        unfold mx
        split <;> omega
      · exact ih
  have down : ∀ k, S < k → payTo ws S fs.length ≤ bstTo n fs ws k := by
    intro k
    induction k with
    | zero => intro hk; omega
    | succ k ih =>
      intro hk
      rw [bstTo]
      by_cases e : S = k
      · subst e
        rw [if_pos hb]
        unfold mx
        split <;> omega
      · have ih := ih (by omega)
        split
        · unfold mx
          split <;> omega
        · exact ih
  have := up _ (Nat.le_refl _)
  have := down _ hlt
  omega
end Go.Proofs.YtmepndnckcpgjaaGreat
