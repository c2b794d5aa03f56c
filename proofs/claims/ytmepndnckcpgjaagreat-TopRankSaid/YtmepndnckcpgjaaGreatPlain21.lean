/- Plain laws: hedges that cost 1, groups and bridges. No condition. -/
import Derived.Test.YtmepndnckcpgjaaGreatPlain20
import Derived.Test.YtmepndnckcpgjaaGreatPlain6
namespace Go.Proofs.YtmepndnckcpgjaaGreat
theorem nodup_sub {α : Type} [DecidableEq α] {l m : List α} (hl : l.Nodup) (h : ∀ x ∈ l, x ∈ m) : l.length ≤ m.length := by
  induction l generalizing m with
  | nil => simp
  | cons a l ih =>
    obtain ⟨h1, h2⟩ := List.nodup_cons.1 hl
    have ha := h a (by simp)
    have := ih (m := m.erase a) h2 (fun x hx => by
      have hne : x ≠ a := fun e => h1 (e ▸ hx)
      exact (List.mem_erase_of_ne hne).2 (h x (by simp [hx])))
    rw [List.length_erase_of_mem ha] at this
    have : 0 < m.length := List.length_pos_of_mem ha
    simp only [List.length_cons]
    omega
def hedL (fs : List (Int × Int)) : List (List Int) := fs.map fun f => [f.1, f.2, 1]
def crs (fs : List (Int × Int)) (x j : Nat) : Bool := x.testBit (fA fs j) != x.testBit (fC fs j)
theorem hedL_cut (fs : List (Int × Int)) {j : Nat} (h : j < fs.length) (x : Nat) : cut1 ((hedL fs).getD j []) x = if crs fs x j = true then 1 else 0 := by
  have e : (hedL fs).getD j [] = [(fs.getD j (0, 0)).1, (fs.getD j (0, 0)).2, 1] := by simp [hedL, List.getD_eq_getElem?_getD, h]
  rw [e]
  unfold cut1 hA hB hC crs fA fC
  simp only [List.getD_eq_getElem?_getD, List.getElem?_cons_zero, List.getElem?_cons_succ, Option.getD_some]
  by_cases hq : x.testBit (fs[j]?.getD (0, 0)).1.toNat = x.testBit (fs[j]?.getD (0, 0)).2.toNat
  · simp [hq]
  · simp [hq]
theorem cutTo_cnt (fs : List (Int × Int)) (x : Nat) : ∀ k, k ≤ fs.length → cutTo (hedL fs) x k = (((List.range k).filter (crs fs x)).length : Int)
  | 0, _ => rfl
  | k + 1, h => by
    have e : cutTo (hedL fs) x (k + 1) = cutTo (hedL fs) x k + cut1 ((hedL fs).getD k []) x := rfl
    rw [e, cutTo_cnt fs x k (by omega), hedL_cut fs (by omega), List.range_succ, List.filter_append, List.length_append]
    cases hc : crs fs x k <;> simp [hc]
theorem cutAt_cnt (fs : List (Int × Int)) (x : Nat) : cutAt (hedL fs) x = (((List.range fs.length).filter (crs fs x)).length : Int) := by
  unfold cutAt
  have e : (hedL fs).length = fs.length := by simp [hedL]
  rw [e]
  exact cutTo_cnt fs x _ (Nat.le_refl _)
theorem cl_iff {fs : List (Int × Int)} {set k x : Nat} : clK fs set k x = true ↔ ∀ j, j < k → set.testBit j = true → crs fs x j = false := by
  unfold clK crs
  rw [List.all_eq_true]
  constructor
  · intro h j hj hs
    have := h j (List.mem_range.2 hj)
    rw [hs] at this
    simpa using this
  · intro h j hj
    have := h j (List.mem_range.1 hj)
    cases hs : set.testBit j
    · simp
    · have := this hs
      simpa using this
theorem allM_bit (m j : Nat) : (allM m).testBit j = decide (j < m) := Nat.testBit_two_pow_sub_one m j
theorem cl_all {fs : List (Int × Int)} {x : Nat} : clK fs (allM fs.length) fs.length x = true ↔ cutAt (hedL fs) x = 0 := by
  rw [cl_iff, cutAt_cnt]
  constructor
  · intro h
    have : (List.range fs.length).filter (crs fs x) = [] := List.filter_eq_nil_iff.2 fun j hj => by
      have hj := List.mem_range.1 hj
      rw [h j hj (by rw [allM_bit, decide_eq_true hj])]
      simp
    rw [this]; rfl
  · intro h j hj _
    have hn : (List.range fs.length).filter (crs fs x) = [] := List.eq_nil_of_length_eq_zero (by omega)
    have := List.filter_eq_nil_iff.1 hn j (List.mem_range.2 hj)
    simpa using this
theorem cl_but {fs : List (Int × Int)} {i x : Nat} (hi : i < fs.length) : (clK fs (nd (allM fs.length) (2 ^ i)) fs.length x = true ∧ ¬ clK fs (allM fs.length) fs.length x = true) ↔ (cutAt (hedL fs) x = 1 ∧ crs fs x i = true) := by
  rw [cl_iff, cl_all, cutAt_cnt]
  have hb : ∀ j, j < fs.length → ((nd (allM fs.length) (2 ^ i)).testBit j = true ↔ j ≠ i) := fun j hj => by
    rw [nd_testBit, allM_bit, decide_eq_true hj, Nat.testBit_two_pow]
    simp
    constructor
    · intro h e; exact h e.symm
    · intro h e; exact h e.symm
  have hnd : ((List.range fs.length).filter (crs fs x)).Nodup := List.nodup_range.filter _
  constructor
  · rintro ⟨h1, h2⟩
    have hsub : ∀ j ∈ (List.range fs.length).filter (crs fs x), j ∈ [i] := fun j hj => by
      rw [List.mem_filter, List.mem_range] at hj
      rw [List.mem_singleton]
      rcases Nat.decEq j i with e | e
      · have := h1 j hj.1 ((hb j hj.1).2 e)
        rw [hj.2] at this; cases this
      · exact e
    have hl := nodup_sub hnd hsub
    rw [List.length_singleton] at hl
    have hl1 : ((List.range fs.length).filter (crs fs x)).length = 1 := by
      have : ((List.range fs.length).filter (crs fs x)).length ≠ 0 := fun e => h2 (by rw [e]; rfl)
      omega
    refine ⟨by rw [hl1]; rfl, ?_⟩
    obtain ⟨y, hy⟩ := List.length_eq_one_iff.1 hl1
    have hym : y ∈ (List.range fs.length).filter (crs fs x) := by rw [hy]; simp
    have hyi := List.mem_singleton.1 (hsub y hym)
    rw [List.mem_filter] at hym
    rw [← hyi]
    exact hym.2
  · rintro ⟨h1, h2⟩
    have hl1 : ((List.range fs.length).filter (crs fs x)).length = 1 := by omega
    refine ⟨fun j hj hs => ?_, by omega⟩
    have hji := (hb j hj).1 hs
    cases hc : crs fs x j
    · rfl
    · have hsub : ∀ z ∈ [i, j], z ∈ (List.range fs.length).filter (crs fs x) := fun z hz => by
        rw [List.mem_filter, List.mem_range]
        rcases List.mem_cons.1 hz with rfl | hz
        · exact ⟨hi, h2⟩
        · rw [List.mem_singleton] at hz
          subst hz
          exact ⟨hj, hc⟩
      have := nodup_sub (l := [i, j]) (by simp; exact fun e => hji e.symm) hsub
      simp at this
      omega
/-- x is neither none nor all. -/
theorem crs_proper {n : Nat} {fs : List (Int × Int)} {x i : Nat} (hx : x < 2 ^ n) (hA : fA fs i < n) (hC : fC fs i < n) (h : crs fs x i = true) : 1 ≤ x ∧ x < 2 ^ n - 1 := by
  unfold crs at h
  have h0 : x ≠ 0 := fun e => by subst e; simp at h
  have h1 : x ≠ 2 ^ n - 1 := fun e => by
    subst e
    rw [Nat.testBit_two_pow_sub_one, Nat.testBit_two_pow_sub_one, decide_eq_true hA, decide_eq_true hC] at h
    cases h
  omega
theorem cnt_len (N : Nat) (P : Nat → Bool) : (List.range N).countP P = ((List.range N).filter P).length := List.countP_eq_length_filter
section
variable {n : Nat} {fs : List (Int × Int)} (hn1 : 1 ≤ n) (h : garE n fs = 0)
include hn1 h
/-- All hang together exactly if each proper group costs something. -/
theorem apart_iff : (∃ x, 1 ≤ x ∧ x < 2 ^ n - 1 ∧ cutAt (hedL fs) x = 0) ↔ 1 < groupsN n fs (allM fs.length) := by
  obtain ⟨g0, gN⟩ := groups_num h (allM fs.length)
  generalize groupsN n fs (allM fs.length) = G at *
  unfold numC at gN
  rw [cnt_len] at gN
  have h2n : 2 ≤ 2 ^ n := Nat.le_trans (by decide : 2 ≤ 2 ^ 1) (Nat.pow_le_pow_right (by omega) hn1)
  obtain ⟨_, _, _, hf⟩ := garE_facts h
  have hfn : ∀ j, j < fs.length → fA fs j < n ∧ fC fs j < n := fun j hj => by
    have := hf j hj
    unfold fA fC
    omega
  have hmem : ∀ x, x ∈ (List.range (2 ^ n)).filter (clK fs (allM fs.length) fs.length) ↔ x < 2 ^ n ∧ cutAt (hedL fs) x = 0 := fun x => by
    rw [List.mem_filter, List.mem_range, cl_all]
  have h0 : cutAt (hedL fs) 0 = 0 := cl_all.1 (cl_iff.2 fun j _ _ => by unfold crs; simp)
  have h1 : cutAt (hedL fs) (2 ^ n - 1) = 0 := cl_all.1 (cl_iff.2 fun j hj _ => by
    unfold crs
    rw [Nat.testBit_two_pow_sub_one, Nat.testBit_two_pow_sub_one, decide_eq_true (hfn j hj).1, decide_eq_true (hfn j hj).2]; rfl)
  have hnd : ((List.range (2 ^ n)).filter (clK fs (allM fs.length) fs.length)).Nodup := List.nodup_range.filter _
  generalize (List.range (2 ^ n)).filter (clK fs (allM fs.length) fs.length) = C at *
  constructor
  · rintro ⟨x, hx1, hx2, hx3⟩
    have h3 := nodup_sub (l := [0, x, 2 ^ n - 1]) (m := C) (by simp; omega) (fun z hz => by
      rw [hmem]
      rcases List.mem_cons.1 hz with rfl | hz
      · exact ⟨by omega, h0⟩
      rcases List.mem_cons.1 hz with rfl | hz
      · exact ⟨by omega, hx3⟩
      · rw [List.mem_singleton] at hz
        subst hz
        exact ⟨by omega, h1⟩)
    rw [gN] at h3
    simp only [List.length_cons, List.length_nil] at h3
    rcases Int.lt_or_le 1 G with hG | hG
    · exact hG
    · have : 2 ^ G.toNat ≤ 2 ^ 1 := Nat.pow_le_pow_right (by omega) (by omega)
      omega
  · intro hG
    refine Classical.byContradiction fun hno => ?_
    have h3 := nodup_sub (m := [0, 2 ^ n - 1]) hnd (fun z hz => by
      rw [hmem] at hz
      rcases Nat.decEq z 0 with e | e
      · rcases Nat.decEq z (2 ^ n - 1) with e2 | e2
        · exact absurd ⟨z, by omega, by omega, hz.2⟩ hno
        · simp [e2]
      · simp [e])
    rw [gN] at h3
    simp only [List.length_cons, List.length_nil] at h3
    have : 2 ^ 2 ≤ 2 ^ G.toNat := Nat.pow_le_pow_right (by omega) (by omega)
    omega
/-- There is a bridge exactly if some group costs 1. -/
theorem bridge_iff : (∃ x, 1 ≤ x ∧ x < 2 ^ n - 1 ∧ cutAt (hedL fs) x = 1) ↔ 0 < (brTo n fs fs.length).length := by
  obtain ⟨_, _, _, hf⟩ := garE_facts h
  have hfn : ∀ j, j < fs.length → fA fs j < n ∧ fC fs j < n := fun j hj => by
    have := hf j hj
    unfold fA fC
    omega
  have hbr : ∀ i, i < fs.length → (brB n fs i = true ↔ ∃ x, x < 2 ^ n ∧ cutAt (hedL fs) x = 1 ∧ crs fs x i = true) := fun i hi => by
    obtain ⟨g0, gN⟩ := groups_num h (allM fs.length)
    obtain ⟨k0, kN⟩ := groups_num h (nd (allM fs.length) (2 ^ i))
    unfold numC at gN kN
    rw [cnt_len] at gN kN
    unfold brB
    rw [decide_eq_true_eq]
    generalize groupsN n fs (allM fs.length) = G at *
    generalize groupsN n fs (nd (allM fs.length) (2 ^ i)) = K at *
    have hsub : ∀ x, clK fs (allM fs.length) fs.length x = true → clK fs (nd (allM fs.length) (2 ^ i)) fs.length x = true := fun x hx => by
      rw [cl_iff] at hx ⊢
      intro j hj hs
      rw [nd_testBit, Bool.and_eq_true] at hs
      exact hx j hj hs.1
    have hnd1 : ((List.range (2 ^ n)).filter (clK fs (allM fs.length) fs.length)).Nodup := List.nodup_range.filter _
    have hnd2 : ((List.range (2 ^ n)).filter (clK fs (nd (allM fs.length) (2 ^ i)) fs.length)).Nodup := List.nodup_range.filter _
    constructor
    · intro hlt
      refine Classical.byContradiction fun hno => ?_
      have h3 := nodup_sub hnd2 (m := (List.range (2 ^ n)).filter (clK fs (allM fs.length) fs.length)) (fun z hz => by
        rw [List.mem_filter, List.mem_range] at hz ⊢
        refine ⟨hz.1, Classical.byContradiction fun hc => hno ⟨z, hz.1, (cl_but hi).1 ⟨hz.2, hc⟩⟩⟩)
      rw [gN, kN] at h3
      have : 2 ^ (G.toNat + 1) ≤ 2 ^ K.toNat := Nat.pow_le_pow_right (by omega) (by omega)
      rw [Nat.pow_succ] at this
      have := Nat.two_pow_pos G.toNat
      omega
    · rintro ⟨x, hx, hc⟩
      obtain ⟨c1, c2⟩ := (cl_but hi).2 hc
      have h3 := nodup_sub (l := x :: (List.range (2 ^ n)).filter (clK fs (allM fs.length) fs.length)) (m := (List.range (2 ^ n)).filter (clK fs (nd (allM fs.length) (2 ^ i)) fs.length)) (List.nodup_cons.2 ⟨fun hm => c2 (List.mem_filter.1 hm).2, hnd1⟩) (fun z hz => by
        rw [List.mem_filter, List.mem_range]
        rcases List.mem_cons.1 hz with rfl | hz
        · exact ⟨hx, c1⟩
        · rw [List.mem_filter, List.mem_range] at hz
          exact ⟨hz.1, hsub z hz.2⟩)
      rw [List.length_cons, gN, kN] at h3
      rcases Int.lt_or_le G K with hlt | hle
      · exact hlt
      · have : 2 ^ K.toNat ≤ 2 ^ G.toNat := Nat.pow_le_pow_right (by omega) (by omega)
        omega
  constructor
  · rintro ⟨x, hx1, hx2, hx3⟩
    have hl1 : ((List.range fs.length).filter (crs fs x)).length = 1 := by
      have := cutAt_cnt fs x
      omega
    obtain ⟨i, hi⟩ := List.length_eq_one_iff.1 hl1
    have him : i ∈ (List.range fs.length).filter (crs fs x) := by rw [hi]; simp
    rw [List.mem_filter, List.mem_range] at him
    have hb := (hbr i him.1).2 ⟨x, by omega, hx3, him.2⟩
    exact List.length_pos_of_mem (show i ∈ brTo n fs fs.length from List.mem_filter.2 ⟨List.mem_range.2 him.1, hb⟩)
  · intro hp
    obtain ⟨i, hi⟩ := List.exists_mem_of_length_pos hp
    have hi := List.mem_filter.1 hi
    have him := List.mem_range.1 hi.1
    obtain ⟨x, hx, hc, hcr⟩ := (hbr i him).1 hi.2
    obtain ⟨p1, p2⟩ := crs_proper hx (hfn i him).1 (hfn i him).2 hcr
    exact ⟨x, p1, p2, hc⟩
end
end Go.Proofs.YtmepndnckcpgjaaGreat
