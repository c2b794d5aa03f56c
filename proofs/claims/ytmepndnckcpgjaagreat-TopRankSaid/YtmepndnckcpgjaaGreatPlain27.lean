/- Plain: the corners of the rank are the bases. -/
import Derived.Test.YtmepndnckcpgjaaGreatPlain26
import Derived.Test.YtmepndnckcpgjaaGreatPlain17
namespace Go.Proofs.YtmepndnckcpgjaaGreat
section
variable {n : Nat} {fs : List (Int × Int)} (h : garE n fs = 0) (h1 : 1 ≤ fs.length) (h6 : fs.length ≤ 6)
include h h1 h6
theorem cor_mem {l : List Int} : l ∈ cornersL (fs.length : Int) (rkL n fs) ↔ l ∈ gsL fs.length (rkL n fs) := by
  unfold cornersL
  rw [if_pos (rk_asked h h1 h6), Int.toNat_natCast]
  exact putAll_mem
theorem cor_nodup : (cornersL (fs.length : Int) (rkL n fs)).Nodup := by
  unfold cornersL
  rw [if_pos (rk_asked h h1 h6), Int.toNat_natCast]
  refine (putAll_strict _).imp fun {a b} hab e => ?_
  subst e
  rw [cmpL_irr] at hab
  omega
omit h h1 h6 in
theorem ord_of {ord : List Nat} (ho : ord ∈ ordF fs.length fs.length []) : Ord fs.length ord := by
  obtain ⟨o1, o2, o3⟩ := ord_mem.1 ho
  refine ⟨o1, fun j hj => ?_, o2⟩
  have : ord.getD j 0 ∈ ord := by
    rw [List.getD_eq_getElem?_getD, List.getElem?_eq_getElem (by omega)]
    exact List.getElem_mem _
  exact o3 _ this
/-- A corner is a base, as a sharing. -/
theorem corner_base {l : List Int} (hl : l ∈ cornersL (fs.length : Int) (rkL n fs)) : l.length = fs.length ∧ (∀ j, l.getD j 0 = 0 ∨ l.getD j 0 = 1) ∧ Bas n fs (setTo l fs.length) := by
  have g := rk_good h h1 h6
  rw [cor_mem h h1 h6] at hl
  obtain ⟨ord, ho, rfl⟩ := List.mem_map.1 hl
  have o := ord_of ho
  have h01 : ∀ j, (greedyL fs.length (rkL n fs) ord).getD j 0 = 0 ∨ (greedyL fs.length (rkL n fs) ord).getD j 0 = 1 := fun j => greedy01 h ord (fun i hi => (ord_mem.1 ho).2.2 i hi) _ j
  exact ⟨greedyL_len _ _ _, h01, fair_base h h1 h6 (greedyL_len _ _ _) h01 (greedy_fair g o)⟩
end
/-! ### each base is a corner -/
/-- the members of a set, then the others. -/
def ordS (S m : Nat) : List Nat := ((List.range m).filter fun i => S.testBit i) ++ (List.range m).filter fun i => !S.testBit i
theorem ordS_ord (S m : Nat) : Ord m (ordS S m) := by
  have hp : (ordS S m).Perm (List.range m) := List.filter_append_perm _ _
  refine ⟨by rw [hp.length_eq, List.length_range], fun j hj => ?_, hp.nodup_iff.2 List.nodup_range⟩
  have hj2 : j < (ordS S m).length := by rw [hp.length_eq, List.length_range]; exact hj
  have : (ordS S m).getD j 0 ∈ ordS S m := by
    rw [List.getD_eq_getElem?_getD, List.getElem?_eq_getElem hj2]
    exact List.getElem_mem _
  exact List.mem_range.1 (hp.mem_iff.1 this)
theorem ordS_mem (S m : Nat) : ordS S m ∈ ordF m m [] := by
  have hp : (ordS S m).Perm (List.range m) := List.filter_append_perm _ _
  exact ord_mem.2 ⟨by rw [hp.length_eq, List.length_range], hp.nodup_iff.2 List.nodup_range, fun x hx => List.mem_range.1 (hp.mem_iff.1 hx)⟩
theorem ordS_take (S m : Nat) : (ordS S m).take ((List.range m).filter fun i => S.testBit i).length = (List.range m).filter fun i => S.testBit i := by
  unfold ordS
  rw [List.take_append_of_le_length (Nat.le_refl _), List.take_length]
/-- two sharings of 0 and 1 with one set are one. -/
theorem ext01 {l p : List Int} {m : Nat} (hl : l.length = m) (hp : p.length = m) (h1 : ∀ j, l.getD j 0 = 0 ∨ l.getD j 0 = 1) (h2 : ∀ j, p.getD j 0 = 0 ∨ p.getD j 0 = 1) (h : setTo l m = setTo p m) : l = p := by
  apply List.ext_getElem
  · omega
  · intro j a b
    have e1 := setTo_bit l j m
    have e2 := setTo_bit p j m
    rw [h, e2] at e1
    have hj : decide (j < m) = true := decide_eq_true (by omega)
    rw [hj, Bool.true_and, Bool.true_and, decide_eq_decide] at e1
    have k1 := h1 j
    have k2 := h2 j
    have la : l.getD j 0 = l[j] := by rw [List.getD_eq_getElem?_getD, List.getElem?_eq_getElem a, Option.getD_some]
    have pb : p.getD j 0 = p[j] := by rw [List.getD_eq_getElem?_getD, List.getElem?_eq_getElem b, Option.getD_some]
    rw [la] at k1 e1
    rw [pb] at k2 e1
    omega
theorem setTo_ind {S m : Nat} (hS : S < 2 ^ m) : setTo (indL S m) m = S := by
  apply Nat.eq_of_testBit_eq
  intro j
  rw [setTo_bit]
  rcases Nat.lt_or_ge j m with hj | hj
  · rw [indL_get S hj, decide_eq_true hj]
    cases S.testBit j <;> simp
  · rw [decide_eq_false (by omega), Bool.false_and, Nat.testBit_lt_two_pow (Nat.lt_of_lt_of_le hS (Nat.pow_le_pow_right (by omega) hj))]
theorem ind01 (S m j : Nat) : (indL S m).getD j 0 = 0 ∨ (indL S m).getD j 0 = 1 := by
  rcases Nat.lt_or_ge j m with hj | hj
  · rw [indL_get S hj]
    cases S.testBit j <;> simp
  · rw [List.getD_eq_getElem?_getD, List.getElem?_eq_none (by rw [indL_len]; exact hj)]
    exact .inl rfl
/-- a subset of the same size is the set itself. -/
theorem size_le {S T : Nat} (hT : ∀ j, T.testBit j = true → S.testBit j = true) : ∀ k, sizeTo T k ≤ sizeTo S k ∧ (sizeTo T k = sizeTo S k → ∀ j, j < k → T.testBit j = S.testBit j)
  | 0 => ⟨Int.le_refl _, fun _ j hj => absurd hj (by omega)⟩
  | k + 1 => by
    obtain ⟨h1, h2⟩ := size_le hT k
    rw [sizeTo, sizeTo]
    cases ht : T.testBit k
    · cases hs : S.testBit k
      · refine ⟨by simpa using h1, fun e j hj => ?_⟩
        rcases Nat.lt_or_ge j k with h3 | h3
        · exact h2 (by simpa using e) j h3
        · obtain rfl : j = k := by omega
          rw [ht, hs]
      · refine ⟨by simp; omega, fun e j hj => ?_⟩
        simp at e
        omega
    · rw [hT k ht]
      refine ⟨by simpa using h1, fun e j hj => ?_⟩
      rcases Nat.lt_or_ge j k with h3 | h3
      · exact h2 (by simpa using e) j h3
      · obtain rfl : j = k := by omega
        rw [ht, hT j ht]
theorem size_eq {S T m : Nat} (hS : S < 2 ^ m) (e : sizeTo T m = sizeTo S m) (hT : ∀ j, T.testBit j = true → S.testBit j = true) : T = S := by
  apply Nat.eq_of_testBit_eq
  intro j
  rcases Nat.lt_or_ge j m with hj | hj
  · exact (size_le hT m).2 e j hj
  · have hs : S.testBit j = false := Nat.testBit_lt_two_pow (Nat.lt_of_lt_of_le hS (Nat.pow_le_pow_right (by omega) hj))
    rw [hs]
    cases ht : T.testBit j
    · rfl
    · have := hT j ht
      rw [hs] at this
      cases this
section
variable {n : Nat} {fs : List (Int × Int)} (h : garE n fs = 0) (h1 : 1 ≤ fs.length) (h6 : fs.length ≤ 6)
include h h1 h6
theorem base_corner {S : Nat} (hS : S < 2 ^ fs.length) (hb : Bas n fs S) : indL S fs.length ∈ cornersL (fs.length : Int) (rkL n fs) := by
  have g := rk_good h h1 h6
  have o := ordS_ord S fs.length
  have ho := ordS_mem S fs.length
  have h01 : ∀ j, (greedyL fs.length (rkL n fs) (ordS S fs.length)).getD j 0 = 0 ∨ (greedyL fs.length (rkL n fs) (ordS S fs.length)).getD j 0 = 1 := fun j => greedy01 h _ (fun i hi => (ord_mem.1 ho).2.2 i hi) _ j
  have hc : greedyL fs.length (rkL n fs) (ordS S fs.length) ∈ cornersL (fs.length : Int) (rkL n fs) := (cor_mem h h1 h6).2 (List.mem_map.2 ⟨_, ho, rfl⟩)
  obtain ⟨_, _, hb2⟩ := corner_base h h1 h6 hc
  -- the members of S come first: all that they pay is the rank of S
  have hk : ((List.range fs.length).filter fun i => S.testBit i).length ≤ fs.length := by
    have := List.length_filter_le (fun i => S.testBit i) (List.range fs.length)
    rwa [List.length_range] at this
  have hm : (gTo fs.length (rkL n fs) (ordS S fs.length) ((List.range fs.length).filter fun i => S.testBit i).length).2 = S := by
    apply Nat.eq_of_testBit_eq
    intro j
    rw [mask_bit, ordS_take]
    cases hj : S.testBit j
    · simp [hj]
    · have hlt : j < fs.length := by
        rcases Nat.lt_or_ge j fs.length with h2 | h2
        · exact h2
        · rw [Nat.testBit_lt_two_pow (Nat.lt_of_lt_of_le hS (Nat.pow_le_pow_right (by omega) h2))] at hj
          cases hj
      simp [hj, hlt]
  have hp := greedy_pre g o _ fs.length hk (Nat.le_refl _)
  rw [hm, rkL_get n fs hS, ← greedyL_eq o] at hp
  have hlen : (greedyL fs.length (rkL n fs) (ordS S fs.length)).length = fs.length := greedyL_len _ _ _
  have hp2 : pay (greedyL fs.length (rkL n fs) (ordS S fs.length)) S = sizeTo (S &&& setTo (greedyL fs.length (rkL n fs) (ordS S fs.length)) fs.length) fs.length := by
    unfold pay
    rw [hlen]
    exact pay_set01 h01 fs.length S fs.length (Nat.le_refl _)
  rw [hp2] at hp
  have hlt := setTo_lt (greedyL fs.length (rkL n fs) (ordS S fs.length)) fs.length
  have e : indL S fs.length = greedyL fs.length (rkL n fs) (ordS S fs.length) := by
    refine ext01 (indL_len _ _) hlen (ind01 S fs.length) h01 ?_
    rw [setTo_ind hS]
    generalize setTo (greedyL fs.length (rkL n fs) (ordS S fs.length)) fs.length = X at *
    have s1 : sizeTo (S &&& X) fs.length = sizeTo S fs.length := by rw [hp, hb.1]
    have s2 : sizeTo (S &&& X) fs.length = sizeTo X fs.length := by rw [s1, hb.2, hb2.2]
    have e1 : S &&& X = S := size_eq hS s1 fun j hj => by rw [Nat.testBit_and, Bool.and_eq_true] at hj; exact hj.1
    have e2 : S &&& X = X := size_eq hlt s2 fun j hj => by rw [Nat.testBit_and, Bool.and_eq_true] at hj; exact hj.2
    rw [← e1, e2]
  rw [e]
  exact hc
/-- As many corners as bases. -/
theorem corner_count : (cornersL (fs.length : Int) (rkL n fs)).length = numB n fs := by
  have hp : (cornersL (fs.length : Int) (rkL n fs)).Perm (((List.range (2 ^ fs.length)).filter fun S => decide (Bas n fs S)).map fun S => indL S fs.length) := by
    refine (List.perm_ext_iff_of_nodup (cor_nodup h h1 h6) ?_).2 fun l => ⟨fun hl => ?_, fun hl => ?_⟩
    · refine List.pairwise_map.2 ((List.nodup_range.filter _).imp_of_mem fun {a b} ha hb hab e => hab ?_)
      have a1 := List.mem_range.1 (List.mem_filter.1 ha).1
      have b1 := List.mem_range.1 (List.mem_filter.1 hb).1
      rw [← setTo_ind a1, e, setTo_ind b1]
    · obtain ⟨l1, l2, l3⟩ := corner_base h h1 h6 hl
      have hlt := setTo_lt l fs.length
      refine List.mem_map.2 ⟨setTo l fs.length, List.mem_filter.2 ⟨List.mem_range.2 hlt, decide_eq_true l3⟩, ?_⟩
      exact ext01 (indL_len _ _) l1 (ind01 _ _) l2 (setTo_ind hlt)
    · obtain ⟨S, hS, rfl⟩ := List.mem_map.1 hl
      obtain ⟨s1, s2⟩ := List.mem_filter.1 hS
      exact base_corner h h1 h6 (List.mem_range.1 s1) (of_decide_eq_true s2)
  rw [hp.length_eq, List.length_map]
  unfold numB
  exact (List.countP_eq_length_filter).symm
end
end Go.Proofs.YtmepndnckcpgjaaGreat
