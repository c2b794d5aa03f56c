/- Plain laws: the groups of a garden and the sets that no fence leaves. No condition. -/
import Derived.Test.YtmepndnckcpgjaaGreatF4
namespace Go.Proofs.YtmepndnckcpgjaaGreat
/-- No fence of the set, of the first k, leaves x. -/
def clK (fs : List (Int × Int)) (set k x : Nat) : Bool := (List.range k).all fun j => !set.testBit j || (x.testBit (fA fs j) == x.testBit (fC fs j))
theorem clK_zero (fs : List (Int × Int)) (set x : Nat) : clK fs set 0 x = true := rfl
theorem clK_succ (fs : List (Int × Int)) (set k x : Nat) : clK fs set (k + 1) x = (clK fs set k x && (!set.testBit k || (x.testBit (fA fs k) == x.testBit (fC fs k)))) := by
  unfold clK
  rw [List.range_succ, List.all_append]
  simp
def numC (n : Nat) (fs : List (Int × Int)) (set k : Nat) : Nat := (List.range (2 ^ n)).countP (clK fs set k)
theorem relab_get {g : List Nat} {a b u : Nat} (hu : u < g.length) : (relab g a b).getD u 0 = if g.getD u 0 = b then a else g.getD u 0 := by
  simp [relab, List.getD_eq_getElem?_getD, hu]
/-- The mask of a label. -/
def maskG (n : Nat) (g : List Nat) (b : Nat) : Nat := ((List.range n).filter fun u => decide (g.getD u 0 = b)).foldl (fun s i => s ||| 2 ^ i) 0
theorem fold_bit (l : List Nat) (x : Nat) : ∀ s, (l.foldl (fun s i => s ||| 2 ^ i) s).testBit x = (s.testBit x || decide (x ∈ l)) := by
  induction l with
  | nil => simp
  | cons a l ih =>
    intro s
    rw [List.foldl_cons, ih, Nat.testBit_or, Nat.testBit_two_pow]
    by_cases h : a = x
    · subst h; simp
    · have h2 : ¬ x = a := fun e => h e.symm
      simp [h, h2]
theorem maskG_bit (n : Nat) (g : List Nat) (b u : Nat) : (maskG n g b).testBit u = (decide (u < n) && decide (g.getD u 0 = b)) := by
  unfold maskG
  rw [fold_bit]
  simp only [Nat.zero_testBit, Bool.false_or, List.mem_filter, List.mem_range, decide_eq_true_eq]
  rw [Bool.decide_and]
theorem maskG_lt (n : Nat) (g : List Nat) (b : Nat) : maskG n g b < 2 ^ n := by
  refine Nat.lt_pow_two_of_testBit _ fun j hj => ?_
  rw [maskG_bit, decide_eq_false (by omega), Bool.false_and]
/-- what the labels say. -/
structure LabI (n : Nat) (fs : List (Int × Int)) (set k : Nat) : Prop where
  cl : ∀ x, clK fs set k x = true ↔ ∀ u v, u < n → v < n → (gSt n fs set k).1.getD u 0 = (gSt n fs set k).1.getD v 0 → x.testBit u = x.testBit v
  num : 0 ≤ (gSt n fs set k).2 ∧ numC n fs set k = 2 ^ (gSt n fs set k).2.toNat
theorem xor_perm (n M : Nat) (hM : M < 2 ^ n) : ((List.range (2 ^ n)).map fun x => x ^^^ M).Perm (List.range (2 ^ n)) := by
  have hx : ∀ x : Nat, x ^^^ M ^^^ M = x := fun x => by rw [Nat.xor_assoc, Nat.xor_self, Nat.xor_zero]
  refine (List.perm_ext_iff_of_nodup ?_ List.nodup_range).2 fun a => ⟨fun h => ?_, fun h => ?_⟩
  · refine List.Pairwise.map _ (fun a b hab h => hab ?_) List.nodup_range
    rw [← hx a, h, hx b]
  · obtain ⟨x, hxm, rfl⟩ := List.mem_map.1 h
    exact List.mem_range.2 (Nat.xor_lt_two_pow (List.mem_range.1 hxm) hM)
  · exact List.mem_map.2 ⟨a ^^^ M, List.mem_range.2 (Nat.xor_lt_two_pow (List.mem_range.1 h) hM), hx a⟩
theorem half_count {n M : Nat} (hM : M < 2 ^ n) (P Q : Nat → Bool) (h1 : ∀ x, P (x ^^^ M) = P x) (h2 : ∀ x, P x = true → Q (x ^^^ M) = !Q x) : (List.range (2 ^ n)).countP P = 2 * (List.range (2 ^ n)).countP fun x => P x && Q x := by
  have hp := xor_perm n M hM
  have e1 : (List.range (2 ^ n)).countP (fun x => P x && Q x) = (List.range (2 ^ n)).countP fun x => P x && !Q x := by
    rw [← hp.countP_eq, List.countP_map]
    congr 1
    funext x
    show (P (x ^^^ M) && Q (x ^^^ M)) = _
    rw [h1]
    cases hx : P x
    · rfl
    · rw [h2 x hx]
  have e2 : ∀ l : List Nat, l.countP P = l.countP (fun x => P x && Q x) + l.countP (fun x => P x && !Q x) := by
    intro l
    induction l with
    | nil => rfl
    | cons a l ih =>
      rw [List.countP_cons, List.countP_cons, List.countP_cons, ih]
      cases P a <;> cases Q a <;> simp <;> omega
  rw [e2, ← e1]
  omega
theorem range_get' {n u : Nat} (h : u < n) : (List.range n).getD u 0 = u := by simp [List.getD_eq_getElem?_getD, h]
theorem labI {n : Nat} {fs : List (Int × Int)} (hv : ∀ k, k < fs.length → fA fs k < n ∧ fC fs k < n) (set : Nat) : ∀ k, k ≤ fs.length → LabI n fs set k
  | 0, _ => by
    refine ⟨fun x => ⟨fun _ u v hu hv h => ?_, fun _ => clK_zero fs set x⟩, by simp [gSt], ?_⟩
    · have h : (List.range n).getD u 0 = (List.range n).getD v 0 := h
      rw [range_get' hu, range_get' hv] at h
      rw [h]
    · show (List.range (2 ^ n)).countP (clK fs set 0) = 2 ^ ((n : Int)).toNat
      rw [List.countP_eq_length.2 (fun x _ => clK_zero fs set x), List.length_range, Int.toNat_natCast]
  | k + 1, hk => by
    have ih := labI hv set k (by omega)
    obtain ⟨hA, hC⟩ := hv k (by omega)
    have hlen := gSt_len n fs set k
    have hst : gSt n fs set (k + 1) = if set.testBit k = false ∨ (gSt n fs set k).1.getD (fA fs k) 0 = (gSt n fs set k).1.getD (fC fs k) 0 then gSt n fs set k else (relab (gSt n fs set k).1 ((gSt n fs set k).1.getD (fA fs k) 0) ((gSt n fs set k).1.getD (fC fs k) 0), (gSt n fs set k).2 - 1) := rfl
    obtain ⟨icl, inum0, inum⟩ := ih
    generalize gSt n fs set k = S at *
    obtain ⟨g, out⟩ := S
    simp only at icl inum0 inum hlen hst
    by_cases hskip : set.testBit k = false ∨ g.getD (fA fs k) 0 = g.getD (fC fs k) 0
    · rw [if_pos hskip] at hst
      have e : ∀ x, clK fs set (k + 1) x = clK fs set k x := fun x => by
        rw [clK_succ]
        rcases hskip with h | h
        · rw [h]; simp
        · cases hc : clK fs set k x
          · rfl
          · rw [(icl x).1 hc _ _ hA hC h]; simp
      refine ⟨fun x => ?_, ?_⟩
      · rw [e, hst]; exact icl x
      · rw [hst]
        refine ⟨inum0, ?_⟩
        rw [← inum]
        unfold numC
        congr 1
        funext x
        exact e x
    · rw [if_neg hskip] at hst
      have hb : set.testBit k = true := by
        cases hv : set.testBit k
        · exact absurd (.inl hv) hskip
        · rfl
      have hne : g.getD (fA fs k) 0 ≠ g.getD (fC fs k) 0 := fun e => hskip (.inr e)
      have e : ∀ x, clK fs set (k + 1) x = (clK fs set k x && (x.testBit (fA fs k) == x.testBit (fC fs k))) := fun x => by rw [clK_succ, hb]; simp
      generalize ha : g.getD (fA fs k) 0 = a at *
      generalize hbb : g.getD (fC fs k) 0 = b at *
      refine ⟨fun x => ?_, ?_⟩
      · rw [e, hst, Bool.and_eq_true, icl x]
        simp only [beq_iff_eq]
        constructor
        · rintro ⟨h1, h2⟩ u v hu hv h
          rw [relab_get (by omega), relab_get (by omega)] at h
          have toA : ∀ u, u < n → g.getD u 0 = a → x.testBit u = x.testBit (fA fs k) := fun u hu e => h1 u _ hu hA (by rw [e, ha])
          have toC : ∀ u, u < n → g.getD u 0 = b → x.testBit u = x.testBit (fC fs k) := fun u hu e => h1 u _ hu hC (by rw [e, hbb])
          by_cases eu : g.getD u 0 = b
          · rw [if_pos eu] at h
            by_cases ev : g.getD v 0 = b
            · rw [toC u hu eu, toC v hv ev]
            · rw [if_neg ev] at h
              rw [toC u hu eu, toA v hv h.symm, h2]
          · rw [if_neg eu] at h
            by_cases ev : g.getD v 0 = b
            · rw [if_pos ev] at h
              rw [toA u hu h, toC v hv ev, h2]
            · rw [if_neg ev] at h
              exact h1 u v hu hv h
        · intro h
          refine ⟨fun u v hu hv e => h u v hu hv ?_, h _ _ hA hC ?_⟩
          · rw [relab_get (by omega), relab_get (by omega), e]
          · rw [relab_get (by omega), relab_get (by omega), ha, hbb, if_neg hne, if_pos rfl]
      · rw [hst]
        have hM := maskG_lt n g b
        have hbit := maskG_bit n g b
        have h2 := half_count hM (clK fs set k) (fun x => x.testBit (fA fs k) == x.testBit (fC fs k)) (fun x => ?_) (fun x _ => ?_)
        · have e3 : numC n fs set (k + 1) = (List.range (2 ^ n)).countP fun x => clK fs set k x && (x.testBit (fA fs k) == x.testBit (fC fs k)) := by
            unfold numC
            congr 1
            funext x
            exact e x
          rw [← e3] at h2
          unfold numC at inum
          rw [inum] at h2
          have hpos : 1 ≤ out := by
            rcases Int.lt_or_le 0 out with h | h
            · omega
            · have : out = 0 := by omega
              rw [this] at h2
              simp at h2
              omega
          refine ⟨by simp only; omega, ?_⟩
          simp only
          have e4 : out.toNat = (out - 1).toNat + 1 := by omega
          rw [e4, Nat.pow_succ] at h2
          omega
        · rw [Bool.eq_iff_iff, icl, icl]
          have key : ∀ u v, u < n → v < n → g.getD u 0 = g.getD v 0 → ((maskG n g b).testBit u = (maskG n g b).testBit v) := fun u v hu hv e => by rw [hbit, hbit, e, decide_eq_true hu, decide_eq_true hv]
          constructor
          · intro h u v hu hv e
            have h3 := h u v hu hv e
            rw [Nat.testBit_xor, Nat.testBit_xor, key u v hu hv e] at h3
            generalize (maskG n g b).testBit v = z at h3
            cases hxu : x.testBit u <;> cases hxv : x.testBit v <;> cases z <;> simp_all
          · intro h u v hu hv e
            rw [Nat.testBit_xor, Nat.testBit_xor, key u v hu hv e, h u v hu hv e]
        · have m1 : (maskG n g b).testBit (fA fs k) = false := by rw [hbit, ha, decide_eq_false hne, Bool.and_false]
          have m2 : (maskG n g b).testBit (fC fs k) = true := by rw [hbit, hbb, decide_eq_true hC]; simp
          rw [Nat.testBit_xor, Nat.testBit_xor, m1, m2]
          cases x.testBit (fA fs k) <;> cases x.testBit (fC fs k) <;> rfl
/-- The sets that no fence leaves are as many as 2 to the number of groups. -/
theorem groups_num {n : Nat} {fs : List (Int × Int)} (h : garE n fs = 0) (set : Nat) : 0 ≤ groupsN n fs set ∧ numC n fs set fs.length = 2 ^ (groupsN n fs set).toNat := by
  obtain ⟨_, _, _, hf⟩ := garE_facts h
  exact (labI (fun k hk => by
    have := hf k hk
    unfold fA fC
    omega) set fs.length (Nat.le_refl _)).num
end Go.Proofs.YtmepndnckcpgjaaGreat
