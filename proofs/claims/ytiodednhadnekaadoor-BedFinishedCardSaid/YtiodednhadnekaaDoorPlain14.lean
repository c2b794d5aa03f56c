/- Plain laws: sets of which any k have k elements at least together have distinct representatives, in d! ways at least if each has d elements. No condition. -/
import Derived.Test.YtiodednhadnekaaDoorW61
namespace Go.Proofs.YtiodednhadnekaaDoor

def factN : Nat → Nat
  | 0 => 1
  | k + 1 => (k + 1) * factN k
theorem factN_pos : ∀ k, 1 ≤ factN k
  | 0 => Nat.le_refl _
  | k + 1 => by
    have := factN_pos k
    unfold factN
    exact Nat.le_trans this (Nat.le_mul_of_pos_left _ (by omega))
/-- The elements of some sets together. -/
def nb (A : Nat → Nat → Bool) (n : Nat) (I : List Nat) : List Nat := (List.range n).filter fun x => I.any fun j => A j x
def HallP (A : Nat → Nat → Bool) (n : Nat) (J : List Nat) : Prop := ∀ I : List Nat, I.Nodup → (∀ j ∈ I, j ∈ J) → I.length ≤ (nb A n I).length
def Sdr (A : Nat → Nat → Bool) (n : Nat) (J : List Nat) (f : Nat → Nat) : Prop := (∀ j ∈ J, f j < n ∧ A j (f j) = true) ∧ ∀ i ∈ J, ∀ j ∈ J, i ≠ j → f i ≠ f j
def Many (A : Nat → Nat → Bool) (n : Nat) (J : List Nat) (N : Nat) : Prop := ∃ L : List (Nat → Nat), N ≤ L.length ∧ (∀ f ∈ L, Sdr A n J f) ∧ L.Pairwise fun f g => ∃ j ∈ J, f j ≠ g j
theorem filter_mono {α : Type} {p q : α → Bool} : ∀ {l : List α}, (∀ x ∈ l, p x = true → q x = true) → (l.filter p).length ≤ (l.filter q).length
  | [], _ => by simp
  | a :: l, h => by
    have ih := filter_mono (l := l) (fun x hx => h x (by simp [hx]))
    rw [List.filter_cons, List.filter_cons]
    by_cases hp : p a = true
    · rw [if_pos hp, if_pos (h a (by simp) hp)]
      simp only [List.length_cons]; omega
    · rw [if_neg hp]
      split
      · simp only [List.length_cons]; omega
      · exact ih
theorem filter_or {α : Type} (p q : α → Bool) : ∀ (l : List α), (l.filter fun x => p x || q x).length ≤ (l.filter p).length + (l.filter q).length
  | [] => by simp
  | a :: l => by
    have ih := filter_or p q l
    simp only [List.filter_cons]
    cases hp : p a <;> cases hq : q a <;> simp only [Bool.or_false, Bool.or_true, Bool.false_eq_true, if_true, if_false, List.length_cons] <;> omega
theorem mem_nb {A : Nat → Nat → Bool} {n : Nat} {I : List Nat} {x : Nat} : x ∈ nb A n I ↔ x < n ∧ ∃ j, j ∈ I ∧ A j x = true := by
  unfold nb
  rw [List.mem_filter, List.mem_range, List.any_eq_true]
theorem not_mem_len {n : Nat} : ∀ {J I : List Nat}, J.Nodup → I.Nodup → (∀ j ∈ I, j ∈ J) → (J.filter fun j => !I.contains j).length + I.length = J.length
  | J, [], _, _, _ => by simp
  | J, i :: I, hJ, hI, hs => by
    obtain ⟨h1, h2⟩ := List.nodup_cons.1 hI
    have ih := not_mem_len (n := n) hJ h2 (fun j hj => hs j (by simp [hj]))
    have hi : i ∈ J := hs i (by simp)
    have key : ∀ (J : List Nat), J.Nodup → i ∈ J → (J.filter fun j => !(i :: I).contains j).length + 1 = (J.filter fun j => !I.contains j).length := by
      intro J
      induction J with
      | nil => intro _ h; simp at h
      | cons a J ihJ =>
        intro hn hm
        obtain ⟨n1, n2⟩ := List.nodup_cons.1 hn
        by_cases e : a = i
        · subst e
          have e1 : (!(a :: I).contains a) = false := by simp
          have e2 : (!I.contains a) = true := by simpa using h1
          rw [List.filter_cons, List.filter_cons, e1, e2]
          simp only [Bool.false_eq_true, if_false, if_true, List.length_cons]
          have : (J.filter fun j => !(a :: I).contains j) = J.filter fun j => !I.contains j := List.filter_congr fun j hj => by
            have : j ≠ a := fun e => n1 (e ▸ hj)
            simp [this]
          rw [this]
        · have hm' : i ∈ J := by
            rcases List.mem_cons.1 hm with h | h
            · exact absurd h.symm e
            · exact h
          have ih2 := ihJ n2 hm'
          have e1 : (!(i :: I).contains a) = !I.contains a := by simp [e]
          rw [List.filter_cons, List.filter_cons, e1]
          split
          · simp only [List.length_cons]; omega
          · exact ih2
    have := key J hJ hi
    simp only [List.length_cons]
    omega
theorem Many.mono {A : Nat → Nat → Bool} {n : Nat} {J : List Nat} {N M : Nat} (h : Many A n J N) (hm : M ≤ N) : Many A n J M := by
  obtain ⟨L, h1, h2⟩ := h
  exact ⟨L, Nat.le_trans hm h1, h2⟩
open Classical in
theorem hall {n : Nat} : ∀ (m : Nat) (J : List Nat) (A : Nat → Nat → Bool) (d : Nat), J.length = m → J.Nodup → HallP A n J → (∀ j ∈ J, d ≤ ((List.range n).filter (A j)).length) → d ≤ J.length → Many A n J (factN d) := by
  intro m
  induction m using Nat.strongRecOn with
  | _ m IH =>
    intro J A d hm hJ hH hd hdl
    match J, hm, hJ, hH, hd, hdl with
    | [], hm, hJ, hH, hd, hdl =>
      obtain rfl : d = 0 := by simpa using hdl
      exact ⟨[fun _ => 0], Nat.le_refl _, fun f hf => ⟨fun j hj => by simp at hj, fun i hi => by simp at hi⟩, by simp⟩
    | j0 :: J', hm, hJ, hH, hd, hdl =>
      by_cases hc : ∃ I : List Nat, I ≠ [] ∧ I.Nodup ∧ (∀ j ∈ I, j ∈ j0 :: J') ∧ I.length < (j0 :: J').length ∧ (nb A n I).length ≤ I.length
      · obtain ⟨I, hne, hIn, hIs, hIl, hIc⟩ := hc
        have hsub : ∀ I2 : List Nat, (∀ j ∈ I2, j ∈ I) → ∀ j ∈ I2, j ∈ j0 :: J' := fun I2 h j hj => hIs j (h j hj)
        have hdI : d ≤ I.length := by
          obtain ⟨i, hi⟩ := List.exists_mem_of_ne_nil I hne
          have h1 := hd i (hIs i hi)
          have h2 : ((List.range n).filter (A i)).length ≤ (nb A n I).length := filter_mono fun x _ hx => List.any_eq_true.2 ⟨i, hi, hx⟩
          omega
        obtain ⟨L1, l1, l2, l3⟩ := IH I.length (by omega) I A d rfl hIn (fun I2 h1 h2 => hH I2 h1 (hsub I2 h2)) (fun j hj => hd j (hIs j hj)) hdI
        have hKl := not_mem_len (n := n) hJ hIn hIs
        have hIp : 0 < I.length := List.length_pos_iff.2 hne
        have hK : Many (fun j x => A j x && !(nb A n I).contains x) n ((j0 :: J').filter fun j => !I.contains j) (factN 0) := by
          refine IH _ (by omega) _ _ 0 rfl (hJ.filter _) (fun I2 h1 h2 => ?_) (fun j hj => Nat.zero_le _) (Nat.zero_le _)
          have hdis : ∀ j ∈ I2, j ∉ I := fun j hj => by
            have := (List.mem_filter.1 (h2 j hj)).2
            simpa using this
          have hnd : (I ++ I2).Nodup := List.nodup_append.2 ⟨hIn, h1, fun a ha b hb e => hdis b hb (e ▸ ha)⟩
          have h3 := hH (I ++ I2) hnd (fun j hj => by
            rcases List.mem_append.1 hj with h | h
            · exact hIs j h
            · exact (List.mem_filter.1 (h2 j h)).1)
          rw [List.length_append] at h3
          have h4 : (nb A n (I ++ I2)).length ≤ (nb A n I).length + (nb (fun j x => A j x && !(nb A n I).contains x) n I2).length := by
            refine Nat.le_trans (filter_mono (q := fun x => (I.any fun j => A j x) || (I2.any fun j => A j x && !(nb A n I).contains x)) fun x hx h => ?_) (filter_or _ _ _)
            have hxn := List.mem_range.1 hx
            rw [List.any_append, Bool.or_eq_true] at h
            rw [Bool.or_eq_true]
            rcases h with h | h
            · exact .inl h
            · by_cases hx2 : (I.any fun j => A j x) = true
              · exact .inl hx2
              · right
                obtain ⟨j, hj, hjx⟩ := List.any_eq_true.1 h
                refine List.any_eq_true.2 ⟨j, hj, ?_⟩
                rw [hjx, Bool.true_and, Bool.not_eq_true', ← Bool.not_eq_true]
                intro hcon
                rw [List.contains_iff_mem] at hcon
                have := mem_nb.1 hcon
                exact hx2 (List.any_eq_true.2 this.2)
          omega
        obtain ⟨L2, k1, k2, _⟩ := hK
        obtain ⟨g, hg⟩ : ∃ g, g ∈ L2 := List.exists_mem_of_ne_nil L2 (fun e => by rw [e] at k1; simp [factN] at k1)
        obtain ⟨g1, g2⟩ := k2 g hg
        have hgm : ∀ j, j ∈ j0 :: J' → j ∉ I → g j < n ∧ A j (g j) = true ∧ g j ∉ nb A n I := fun j hj hjI => by
          have h := g1 j (List.mem_filter.2 ⟨hj, by simpa using hjI⟩)
          refine ⟨h.1, ?_, ?_⟩
          · have := h.2; rw [Bool.and_eq_true] at this; exact this.1
          · have := h.2; rw [Bool.and_eq_true] at this; simpa using this.2
        refine ⟨L1.map fun f j => if j ∈ I then f j else g j, by rw [List.length_map]; exact l1, fun f hf => ?_, ?_⟩
        · obtain ⟨f, hf2, rfl⟩ := List.mem_map.1 hf
          obtain ⟨f1, f2⟩ := l2 f hf2
          have hfI : ∀ j, j ∈ I → f j ∈ nb A n I := fun j hj => mem_nb.2 ⟨(f1 j hj).1, j, hj, (f1 j hj).2⟩
          refine ⟨fun j hj => ?_, fun i hi j hj hij => ?_⟩
          · by_cases h : j ∈ I
            · simp only [if_pos h]; exact f1 j h
            · simp only [if_neg h]; have := hgm j hj h; exact ⟨this.1, this.2.1⟩
          · by_cases h : i ∈ I
            · by_cases h' : j ∈ I
              · simp only [if_pos h, if_pos h']; exact f2 i h j h' hij
              · simp only [if_pos h, if_neg h']
                intro e
                exact (hgm j hj h').2.2 (e ▸ hfI i h)
            · by_cases h' : j ∈ I
              · simp only [if_neg h, if_pos h']
                intro e
                exact (hgm i hi h).2.2 (e.symm ▸ hfI j h')
              · simp only [if_neg h, if_neg h']
                exact g2 i (List.mem_filter.2 ⟨hi, by simpa using h⟩) j (List.mem_filter.2 ⟨hj, by simpa using h'⟩) hij
        · refine List.pairwise_map.2 (l3.imp fun {f g'} h => ?_)
          obtain ⟨j, hj, hne⟩ := h
          exact ⟨j, hIs j hj, by simp only [if_pos hj]; exact hne⟩
      · have hnc : ∀ I : List Nat, I ≠ [] → I.Nodup → (∀ j ∈ I, j ∈ j0 :: J') → I.length < (j0 :: J').length → I.length + 1 ≤ (nb A n I).length := fun I h1 h2 h3 h4 => by
          rcases Nat.lt_or_ge I.length (nb A n I).length with h | h
          · omega
          · exact absurd ⟨I, h1, h2, h3, h4, h⟩ hc
        obtain ⟨hj1, hj2⟩ := List.nodup_cons.1 hJ
        have hmany : ∀ x, x < n → A j0 x = true → Many (fun j y => A j y && !(y == x)) n J' (factN (d - 1)) := fun x hx _ => by
          refine IH J'.length (by simp only [List.length_cons] at hm; omega) J' _ (d - 1) rfl hj2 (fun I h1 h2 => ?_) (fun j hj => ?_) (by simp only [List.length_cons] at hdl; omega)
          · by_cases hI : I = []
            · rw [hI]; simp
            · have h3 := hnc I hI h1 (fun j hj => by simp [h2 j hj]) (by
                have h5 := nodup_sub h1 h2
                simp only [List.length_cons]; omega)
              have h4 : (nb A n I).length ≤ (nb (fun j y => A j y && !(y == x)) n I).length + ((List.range n).filter fun y => y == x).length := by
                refine Nat.le_trans (filter_mono (q := fun y => (I.any fun j => A j y && !(y == x)) || y == x) fun y hy h => ?_) (filter_or _ _ _)
                by_cases e : y = x
                · simp [e]
                · obtain ⟨j, hj, hjx⟩ := List.any_eq_true.1 h
                  rw [Bool.or_eq_true]
                  exact .inl (List.any_eq_true.2 ⟨j, hj, by rw [hjx]; simpa using e⟩)
              have h5 : ((List.range n).filter fun y => y == x).length ≤ 1 := by
                have := nodup_sub (l := (List.range n).filter fun y => y == x) (m := [x]) (List.nodup_range.filter _) (fun y hy => by simpa using (List.mem_filter.1 hy).2)
                simpa using this
              omega
          · have h1 := hd j (by simp [hj])
            have h4 : ((List.range n).filter (A j)).length ≤ ((List.range n).filter fun y => A j y && !(y == x)).length + ((List.range n).filter fun y => y == x).length := by
              refine Nat.le_trans (filter_mono (q := fun y => (A j y && !(y == x)) || y == x) fun y hy h => ?_) (filter_or _ _ _)
              by_cases e : y = x
              · simp [e]
              · rw [h]; simp
            have h5 : ((List.range n).filter fun y => y == x).length ≤ 1 := by
              have := nodup_sub (l := (List.range n).filter fun y => y == x) (m := [x]) (List.nodup_range.filter _) (fun y hy => by simpa using (List.mem_filter.1 hy).2)
              simpa using this
            omega
        let Lx : Nat → List (Nat → Nat) := fun x => if h : x < n ∧ A j0 x = true then (hmany x h.1 h.2).choose else []
        have hLx : ∀ x, x < n → A j0 x = true → factN (d - 1) ≤ (Lx x).length ∧ (∀ f ∈ Lx x, Sdr (fun j y => A j y && !(y == x)) n J' f) ∧ (Lx x).Pairwise fun f g => ∃ j ∈ J', f j ≠ g j := fun x h1 h2 => by
          have h : x < n ∧ A j0 x = true := ⟨h1, h2⟩
          simp only [Lx, dif_pos h]
          exact (hmany x h.1 h.2).choose_spec
        have hX : ∀ x ∈ (List.range n).filter (A j0), x < n ∧ A j0 x = true := fun x hx => by
          rw [List.mem_filter, List.mem_range] at hx; exact hx
        refine ⟨((List.range n).filter (A j0)).flatMap fun x => (Lx x).map fun f j => if j = j0 then x else f j, ?_, fun f hf => ?_, ?_⟩
        · have hlen : ∀ X : List Nat, (∀ x ∈ X, x < n ∧ A j0 x = true) → X.length * factN (d - 1) ≤ (X.flatMap fun x => (Lx x).map fun f j => if j = j0 then x else f j).length := by
            intro X
            induction X with
            | nil => intro _; simp
            | cons x X ih =>
              intro h
              have h1 := ih (fun y hy => h y (by simp [hy]))
              have h2 := (hLx x (h x (by simp)).1 (h x (by simp)).2).1
              rw [List.flatMap_cons, List.length_append, List.length_map, List.length_cons, Nat.succ_mul]
              omega
          refine Nat.le_trans ?_ (hlen _ hX)
          have hd0 := hd j0 (by simp)
          cases d with
          | zero =>
            have h1 := hH [j0] (by simp) (by simp)
            have h2 : (nb A n [j0]).length ≤ ((List.range n).filter (A j0)).length := filter_mono fun x _ h => by simpa using h
            have h3 : 1 ≤ ((List.range n).filter (A j0)).length := by simp at h1; omega
            exact Nat.le_trans (Nat.le_refl 1) (Nat.le_trans h3 (Nat.le_mul_of_pos_right _ (factN_pos _)))
          | succ d => exact Nat.mul_le_mul_right _ hd0
        · obtain ⟨x, hx, hf⟩ := List.mem_flatMap.1 hf
          obtain ⟨f, hf2, rfl⟩ := List.mem_map.1 hf
          obtain ⟨x1, x2⟩ := hX x hx
          obtain ⟨f1, f2⟩ := (hLx x x1 x2).2.1 f hf2
          have hfx : ∀ j ∈ J', f j < n ∧ A j (f j) = true ∧ f j ≠ x := fun j hj => by
            have := f1 j hj
            refine ⟨this.1, ?_, ?_⟩
            · have := this.2; rw [Bool.and_eq_true] at this; exact this.1
            · have := this.2; rw [Bool.and_eq_true] at this; simpa using this.2
          refine ⟨fun j hj => ?_, fun i hi j hj hij => ?_⟩
          · by_cases e : j = j0
            · simp only [if_pos e]; rw [e]; exact ⟨x1, x2⟩
            · simp only [if_neg e]
              have hj' : j ∈ J' := (List.mem_cons.1 hj).resolve_left e
              exact ⟨(hfx j hj').1, (hfx j hj').2.1⟩
          · by_cases e : i = j0
            · by_cases e' : j = j0
              · omega
              · simp only [if_pos e, if_neg e']
                exact (hfx j ((List.mem_cons.1 hj).resolve_left e')).2.2.symm
            · by_cases e' : j = j0
              · simp only [if_neg e, if_pos e']
                exact (hfx i ((List.mem_cons.1 hi).resolve_left e)).2.2
              · simp only [if_neg e, if_neg e']
                exact f2 i ((List.mem_cons.1 hi).resolve_left e) j ((List.mem_cons.1 hj).resolve_left e') hij
        · have hpw : ∀ X : List Nat, X.Nodup → (∀ x ∈ X, x < n ∧ A j0 x = true) → (X.flatMap fun x => (Lx x).map fun f j => if j = j0 then x else f j).Pairwise fun f g => ∃ j ∈ j0 :: J', f j ≠ g j := by
            intro X
            induction X with
            | nil => intro _ _; simp
            | cons x X ih =>
              intro hX1 h
              obtain ⟨a1, a2⟩ := List.nodup_cons.1 hX1
              rw [List.flatMap_cons, List.pairwise_append]
              refine ⟨List.pairwise_map.2 ((hLx x (h x (by simp)).1 (h x (by simp)).2).2.2.imp fun {f g} hfg => ?_), ih a2 (fun y hy => h y (by simp [hy])), fun f hf g hg => ?_⟩
              · obtain ⟨j, hj, hne⟩ := hfg
                have e : j ≠ j0 := fun e => hj1 (e ▸ hj)
                exact ⟨j, by simp [hj], by simp only [if_neg e]; exact hne⟩
              · obtain ⟨f, hf, rfl⟩ := List.mem_map.1 hf
                obtain ⟨y, hy, hg⟩ := List.mem_flatMap.1 hg
                obtain ⟨g, hg, rfl⟩ := List.mem_map.1 hg
                refine ⟨j0, by simp, ?_⟩
                simp only [if_true]
                exact fun e => a1 (e ▸ hy)
          exact hpw _ (List.nodup_range.filter _) hX
/-- Pairs counted in two orders. -/
theorem count_swap (A : Nat → Nat → Bool) (n : Nat) : ∀ I : List Nat, (I.map fun j => ((List.range n).filter (A j)).length).sum = sumN (fun x => (I.filter fun j => A j x).length) n
  | [] => by simp; exact (sumN_zero fun _ _ => rfl).symm
  | j :: I => by
    rw [List.map_cons, List.sum_cons, count_swap A n I]
    have e : ∀ m, ((List.range m).filter (A j)).length = sumN (fun x => if A j x = true then 1 else 0) m := by
      intro m
      induction m with
      | zero => rfl
      | succ m ih =>
        rw [List.range_succ, List.filter_append, List.length_append, ih]
        show _ = sumN (fun x => if A j x = true then 1 else 0) m + (if A j m = true then 1 else 0)
        by_cases h : A j m = true
        · rw [if_pos h, List.filter_cons, if_pos h]; rfl
        · rw [if_neg h, List.filter_cons, if_neg h]; rfl
    rw [e n]
    have h2 : ∀ m, sumN (fun x => if A j x = true then 1 else 0) m + sumN (fun x => (I.filter fun j => A j x).length) m = sumN (fun x => ((j :: I).filter fun j => A j x).length) m := by
      intro m
      induction m with
      | zero => rfl
      | succ m ih =>
        show (sumN (fun x => if A j x = true then 1 else 0) m + (if A j m = true then 1 else 0)) + (sumN (fun x => (I.filter fun j => A j x).length) m + (I.filter fun j => A j m).length) = sumN (fun x => ((j :: I).filter fun j => A j x).length) m + ((j :: I).filter fun j => A j m).length
        rw [← ih, List.filter_cons]
        by_cases h : A j m = true
        · rw [if_pos h, if_pos h, List.length_cons]; omega
        · rw [if_neg h, if_neg h]; omega
    exact h2 n
/-- Sets of d elements, of which each element is in d at most. -/
theorem hall_regular {A : Nat → Nat → Bool} {n d : Nat} {J : List Nat} (hd : 0 < d) (h1 : ∀ j ∈ J, d ≤ ((List.range n).filter (A j)).length) (h2 : ∀ x, x < n → ∀ I : List Nat, I.Nodup → (∀ j ∈ I, j ∈ J) → (I.filter fun j => A j x).length ≤ d) : HallP A n J := by
  intro I hI hs
  have hsum := count_swap A n I
  have hlo : ∀ I : List Nat, (∀ j ∈ I, j ∈ J) → I.length * d ≤ (I.map fun j => ((List.range n).filter (A j)).length).sum := by
    intro I
    induction I with
    | nil => intro _; simp
    | cons j I ih =>
      intro hs
      have a1 := ih (fun j hj => hs j (by simp [hj]))
      have a2 := h1 j (hs j (by simp))
      rw [List.length_cons, Nat.succ_mul, List.map_cons, List.sum_cons]
      omega
  have hhi : ∀ m, m ≤ n → sumN (fun x => (I.filter fun j => A j x).length) m ≤ ((List.range m).filter fun x => I.any fun j => A j x).length * d := by
    intro m
    induction m with
    | zero => intro _; exact Nat.zero_le _
    | succ m ih =>
      intro hm
      have a1 := ih (by omega)
      rw [List.range_succ, List.filter_append, List.length_append, Nat.add_mul]
      show sumN (fun x => (I.filter fun j => A j x).length) m + (I.filter fun j => A j m).length ≤ _
      by_cases h : (I.any fun j => A j m) = true
      · rw [List.filter_cons, if_pos h]
        have a2 := h2 m (by omega) I hI hs
        simp only [List.filter_nil, List.length_cons, List.length_nil, Nat.zero_add, Nat.one_mul]
        omega
      · have a2 : (I.filter fun j => A j m) = [] := by
          rw [List.filter_eq_nil_iff]
          intro j hj hjm
          exact h (List.any_eq_true.2 ⟨j, hj, hjm⟩)
        rw [a2]
        simp only [List.length_nil]
        omega
  have a1 := hlo I hs
  have a2 := hhi n (Nat.le_refl _)
  rw [hsum] at a1
  have a3 : I.length * d ≤ (nb A n I).length * d := Nat.le_trans a1 a2
  exact Nat.le_of_mul_le_mul_right a3 hd
end Go.Proofs.YtiodednhadnekaaDoor
