/- Plain laws: the greedy sharing of any order is fair, and each group that came first pays just its cost. No condition. -/
import Derived.Test.YtpehhbiodmgjeaaPlain9
import Derived.Test.YtpehhbiodmgjeaaPlain11
namespace Go.Proofs.Ytpehhbiodmgjeaa

theorem payTo_set (l : List Int) (i : Nat) (v : Int) (b k : Nat) (hi : i < l.length) (h0 : l.getD i 0 = 0) : payTo (l.set i v) b k = payTo l b k + if i < k ∧ b.testBit i = true then v else 0 := by
  induction k with
  | zero => simp [payTo]
  | succ k ih =>
    have e1 : payTo (l.set i v) b (k + 1) = payTo (l.set i v) b k + if b.testBit k then (l.set i v).getD k 0 else 0 := rfl
    have e2 : payTo l b (k + 1) = payTo l b k + if b.testBit k then l.getD k 0 else 0 := rfl
    rw [e1, e2, ih]
    by_cases hk : k = i
    · subst hk
      have e3 : (l.set k v).getD k 0 = v := by simp [List.getD_eq_getElem?_getD, hi]
      rw [e3, h0]
      cases hb : b.testBit k <;> simp
    · have e3 : (l.set i v).getD k 0 = l.getD k 0 := by
        simp [List.getD_eq_getElem?_getD, List.getElem?_set_ne (fun h => hk h.symm)]
      rw [e3]
      by_cases h1 : i < k
      · simp [h1, show i < k + 1 by omega]; omega
      · simp [h1, show ¬ i < k + 1 by omega]
theorem pay_set (l : List Int) (i : Nat) (v : Int) (b : Nat) (hi : i < l.length) (h0 : l.getD i 0 = 0) : pay (l.set i v) b = pay l b + if b.testBit i = true then v else 0 := by
  unfold pay
  rw [List.length_set, payTo_set l i v b _ hi h0]
  simp [hi]
/-- Only what is paid within matters. -/
theorem payTo_sup (l : List Int) (b m k : Nat) (h : ∀ j, j < k → m.testBit j = false → l.getD j 0 = 0) : payTo l (b &&& m) k = payTo l b k := by
  induction k with
  | zero => rfl
  | succ k ih =>
    have e1 : payTo l (b &&& m) (k + 1) = payTo l (b &&& m) k + if (b &&& m).testBit k then l.getD k 0 else 0 := rfl
    have e2 : payTo l b (k + 1) = payTo l b k + if b.testBit k then l.getD k 0 else 0 := rfl
    rw [e1, e2, ih fun j hj => h j (by omega), Nat.testBit_and]
    cases hm : m.testBit k
    · rw [h k (by omega) hm]; simp
    · simp

theorem pigeon (n : Nat) (l : List Nat) (hd : l.Nodup) (h : ∀ x ∈ l, x < n) : l.length ≤ n := by
  induction n generalizing l with
  | zero =>
    cases l with
    | nil => exact Nat.le_refl _
    | cons a t => exact absurd (h a (List.mem_cons_self ..)) (by omega)
  | succ n ih =>
    have h1 := ih (l.erase n) (hd.erase n) (fun x hx => by
      rw [hd.mem_erase_iff] at hx
      have := h x hx.2
      omega)
    rw [List.length_erase] at h1
    split at h1 <;> omega

section
variable {n : Nat} {xs : List Int} {ord : List Nat}
theorem mask_bit (k j : Nat) : (gTo n xs ord k).2.testBit j = decide (j ∈ ord.take k) := by
  unfold gTo
  generalize ord.take k = l
  suffices ∀ s : List Int × Nat, (l.foldl (gstep xs) s).2.testBit j = (s.2.testBit j || decide (j ∈ l)) by simpa using this (List.replicate n 0, 0)
  induction l with
  | nil => intro s; simp
  | cons a l ih =>
    intro s
    rw [List.foldl_cons, ih]
    unfold gstep
    simp only [Nat.testBit_or, Nat.testBit_two_pow, List.mem_cons]
    rw [Bool.eq_iff_iff]
    simp only [Bool.or_eq_true, decide_eq_true_eq]
    constructor
    · rintro ((h | h) | h)
      · exact .inl h
      · exact .inr (.inl h.symm)
      · exact .inr (.inr h)
    · rintro (h | h | h)
      · exact .inl (.inl h)
      · exact .inl (.inr h.symm)
      · exact .inr h
theorem out_zero (k j : Nat) (h : j ∉ ord.take k) : (gTo n xs ord k).1.getD j 0 = 0 := by
  unfold gTo
  revert h
  generalize ord.take k = l
  intro h
  suffices ∀ s : List Int × Nat, s.1.getD j 0 = 0 → (l.foldl (gstep xs) s).1.getD j 0 = 0 by
    refine this _ ?_
    by_cases hj : j < n <;> simp [List.getD_eq_getElem?_getD, hj]
  induction l with
  | nil => intro s hs; exact hs
  | cons a l ih =>
    intro s hs
    simp only [List.mem_cons, not_or] at h
    rw [List.foldl_cons]
    refine ih h.2 _ ?_
    unfold gstep
    simp only [List.getD_eq_getElem?_getD, List.getElem?_set_ne (fun e : a = j => h.1 e.symm)]
    simpa [List.getD_eq_getElem?_getD] using hs
/-- An order of gardeners. -/
structure Ord (n : Nat) (ord : List Nat) : Prop where
  len : ord.length = n
  lt : ∀ j, j < n → ord.getD j 0 < n
  nd : ord.Nodup
theorem Ord.new (o : Ord n ord) (k : Nat) (hk : k < n) : ord.getD k 0 ∉ ord.take k := by
  have hk' : k < ord.length := by rw [o.len]; exact hk
  have h1 : ord.take (k + 1) = ord.take k ++ [ord.getD k 0] := by
    rw [List.take_succ_eq_append_getElem hk']; simp [List.getD_eq_getElem?_getD, hk']
  have h2 : (ord.take (k + 1)).Nodup := o.nd.sublist (List.take_sublist _ _)
  rw [h1, List.nodup_append] at h2
  intro h
  exact h2.2.2 _ h _ (List.mem_singleton.2 rfl) rfl
theorem Ord.mlt (o : Ord n ord) (k : Nat) (hk : k ≤ n) : (gTo n xs ord k).2 < 2 ^ n := gTo_lt n xs ord k (fun j hj => o.lt j (by rw [← o.len]; exact hj)) (by rw [o.len]; exact hk)
variable (g : Good n xs) (o : Ord n ord)
include g o
theorem greedy_step (k : Nat) (hk : k ≤ n) : (∀ b, b < 2 ^ n → b &&& (gTo n xs ord k).2 = b → pay (gTo n xs ord k).1 b ≤ xs.getD b 0) ∧ pay (gTo n xs ord k).1 (gTo n xs ord k).2 = xs.getD (gTo n xs ord k).2 0 := by
  induction k with
  | zero =>
    have e : (gTo n xs ord 0) = (List.replicate n 0, 0) := rfl
    rw [e]
    constructor
    · intro b _ hb
      rw [Nat.and_zero] at hb
      subst hb
      rw [pay_zero, g.zero]
      exact Int.le_refl _
    · show pay _ 0 = xs.getD 0 0
      rw [pay_zero, g.zero]
  | succ k ih =>
    obtain ⟨ih1, ih2⟩ := ih (by omega)
    have hnew := o.new k (by omega)
    have hb0 : (gTo n xs ord k).2.testBit (ord.getD k 0) = false := by rw [mask_bit]; exact decide_eq_false hnew
    have hz : (gTo n xs ord k).1.getD (ord.getD k 0) 0 = 0 := out_zero k _ hnew
    have hm := o.mlt (xs := xs) k (by omega)
    have hi := o.lt k (by omega)
    have hlen := gTo_len n xs ord k
    have hout : ∀ j, j < n → (gTo n xs ord k).2.testBit j = false → (gTo n xs ord k).1.getD j 0 = 0 := fun j _ hj => by
      rw [mask_bit] at hj
      exact out_zero k j (of_decide_eq_false hj)
    rw [gTo_succ n xs ord k (by rw [o.len]; omega)]
    unfold gstep
    generalize gTo n xs ord k = s at *
    obtain ⟨l, m⟩ := s
    simp only at *
    generalize ord.getD k 0 = i at *
    have hpw : 2 ^ i < 2 ^ n := Nat.pow_lt_pow_right (by omega) hi
    have key : ∀ b, b < 2 ^ n → b &&& (m ||| 2 ^ i) = b → b.testBit i = true → pay l b = pay l (b &&& m) ∧ b ||| m = m ||| 2 ^ i := fun b hb h1 h2 => by
      refine ⟨?_, ?_⟩
      · unfold pay; rw [payTo_sup l b m _ (fun j hj => hout j (by omega))]
      · apply Nat.eq_of_testBit_eq
        intro j
        have h3 : (b &&& (m ||| 2 ^ i)).testBit j = b.testBit j := by rw [h1]
        simp only [Nat.testBit_and, Nat.testBit_or, Nat.testBit_two_pow] at h3 ⊢
        by_cases hij : i = j
        · subst hij; rw [h2]; simp
        · simp only [hij, decide_false, Bool.or_false] at h3 ⊢
          cases hbj : b.testBit j <;> cases hmj : m.testBit j <;> simp_all
    constructor
    · intro b hb h1
      rw [pay_set l i _ b (by omega) hz]
      cases h2 : b.testBit i
      · rw [if_neg (by simp)]
        have h3 : b &&& m = b := by
          apply Nat.eq_of_testBit_eq
          intro j
          have h3 : (b &&& (m ||| 2 ^ i)).testBit j = b.testBit j := by rw [h1]
          simp only [Nat.testBit_and, Nat.testBit_or, Nat.testBit_two_pow] at h3 ⊢
          by_cases hij : i = j
          · subst hij; rw [h2]; rfl
          · simp only [hij, decide_false, Bool.or_false] at h3
            exact h3
        have := ih1 b hb h3
        omega
      · rw [if_pos rfl]
        obtain ⟨k1, k2⟩ := key b hb h1 h2
        have h3 := ih1 (b &&& m) (and_lt_pow hb) (by rw [Nat.and_assoc, Nat.and_self])
        have h4 := g.sub b m (by rw [g.len]; exact hb) (by rw [g.len]; exact hm)
        rw [k2] at h4
        omega
    · rw [pay_set l i _ _ (by omega) hz]
      have h2 : (m ||| 2 ^ i).testBit i = true := by rw [Nat.testBit_or, Nat.testBit_two_pow]; simp
      rw [if_pos h2]
      obtain ⟨k1, _⟩ := key (m ||| 2 ^ i) (Nat.or_lt_two_pow hm hpw) (Nat.and_self _) h2
      have k3 : (m ||| 2 ^ i) &&& m = m := by rw [Nat.and_comm]; exact or_and (by rw [← Nat.or_assoc, Nat.or_self])
      rw [k1, k3, ih2]
      omega
/-- Those who came first pay the same at the end. -/
theorem greedy_pre (k q : Nat) (hk : k ≤ q) (hq : q ≤ n) : pay (gTo n xs ord q).1 (gTo n xs ord k).2 = xs.getD (gTo n xs ord k).2 0 := by
  obtain ⟨d, rfl⟩ : ∃ d, q = k + d := ⟨q - k, by omega⟩
  induction d with
  | zero => exact (greedy_step g o k (by omega)).2
  | succ d ih =>
    have hnew := o.new (k + d) (by omega)
    rw [show k + (d + 1) = (k + d) + 1 by omega, gTo_succ n xs ord (k + d) (by rw [o.len]; omega)]
    unfold gstep
    rw [pay_set _ _ _ _ (by rw [gTo_len]; exact o.lt _ (by omega)) (out_zero _ _ hnew), ih (by omega) (by omega)]
    have : (gTo n xs ord k).2.testBit (ord.getD (k + d) 0) = false := by
      rw [mask_bit]
      refine decide_eq_false fun h => hnew ?_
      exact (List.take_sublist_take_left (by omega : k ≤ k + d)).subset h
    rw [this]; simp
omit g in
theorem Ord.mem (j : Nat) (hj : j < n) : j ∈ ord := by
  by_cases h : j ∈ ord
  · exact h
  · exfalso
    have h1 := pigeon n (j :: ord) (List.nodup_cons.2 ⟨h, o.nd⟩) (fun x hx => by
      rcases List.mem_cons.1 hx with rfl | hx
      · exact hj
      · obtain ⟨i, hi, rfl⟩ := List.getElem_of_mem hx
        have := o.lt i (by rw [← o.len]; exact hi)
        simpa [List.getD_eq_getElem?_getD, hi] using this)
    rw [List.length_cons, o.len] at h1
    omega
theorem mask_all : (gTo n xs ord n).2 = tail n 0 := by
  apply Nat.eq_of_testBit_eq
  intro j
  rw [mask_bit]
  by_cases h7 : j < 7
  · rw [tail_bits n g.n6 0 (by omega) j h7, ← o.len, List.take_length, o.len]
    by_cases hj : j < n
    · rw [decide_eq_true (o.mem j hj)]; simp [hj]
    · rw [decide_eq_false (fun h => hj (by
        obtain ⟨i, hi, rfl⟩ := List.getElem_of_mem h
        have := o.lt i (by rw [← o.len]; exact hi)
        simpa [List.getD_eq_getElem?_getD, hi] using this))]
      simp [hj]
  · have h1 : tail n 0 < 2 ^ j := Nat.lt_of_lt_of_le (tail_lt n g.n6 0 (by omega)) (Nat.pow_le_pow_right (by omega) (by have := g.n6; omega))
    rw [Nat.testBit_lt_two_pow h1]
    refine decide_eq_false fun h => ?_
    rw [← o.len, List.take_length] at h
    obtain ⟨i, hi, rfl⟩ := List.getElem_of_mem h
    have := o.lt i (by rw [← o.len]; exact hi)
    rw [List.getD_eq_getElem?_getD, List.getElem?_eq_getElem hi, Option.getD_some] at this
    have := g.n6
    omega
omit g in
theorem greedyL_eq : greedyL n xs ord = (gTo n xs ord n).1 := by unfold greedyL; rw [o.len]
theorem greedy_le (b : Nat) (hb : b < 2 ^ n) : pay (greedyL n xs ord) b ≤ xs.getD b 0 := by
  rw [greedyL_eq o]
  refine (greedy_step g o n (Nat.le_refl _)).1 b hb ?_
  rw [mask_all g o, tail_all n g.n6 b hb]
theorem greedy_fair : isFair xs (greedyL n xs ord) = true := by
  refine isFair_mk g (fun a ha => greedy_le g o a ha) ?_
  rw [greedyL_eq o, ← mask_all g o]
  exact (greedy_step g o n (Nat.le_refl _)).2
omit o in
theorem greedy_sh : shOk n (greedyL n xs ord) = true :=
  shOk_mk (greedyL_len _ _ _) fun j _ => by have := greedyL_in n xs g.bnd ord j; omega
end
end Go.Proofs.Ytpehhbiodmgjeaa
