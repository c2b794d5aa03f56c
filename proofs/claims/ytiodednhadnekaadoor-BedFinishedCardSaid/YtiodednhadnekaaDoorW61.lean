/- Walks: BedPairs. -/
import Derived.Test.YtiodednhadnekaaDoorW60
namespace Go.Proofs.YtiodednhadnekaaDoor
open Go.RowKit Go.Deep
attribute [local go_sem ↓] Go.wp_at_zero Go.wp_at_succ

/-! ### plain -/
theorem matesB_iff {a b : List (List Int)} : matesB a b = true ↔ fullB a = true ∧ fullB b = true ∧ a.length = b.length ∧ OrthP a.length a b := by
  unfold matesB
  split
  · rename_i h
    rw [orthB_iff]
    exact ⟨fun h2 => ⟨h.1, h.2.1, h.2.2, h2⟩, fun h2 => h2.2.2.2⟩
  · rename_i h
    exact ⟨fun h2 => (by cases h2), fun h2 => absurd ⟨h2.1, h2.2.1, h2.2.2.1⟩ h⟩
theorem matesE_comm (a b : List (List Int)) : matesE b a = matesE a b := by
  unfold matesE
  by_cases h : fullB a = true ∧ fullB b = true ∧ a.length = b.length
  · rw [if_pos h, if_pos ⟨h.2.1, h.1, h.2.2.symm⟩]
  · rw [if_neg h, if_neg fun h2 => h ⟨h2.2.1, h2.1, h2.2.2.symm⟩]
theorem matesB_comm (a b : List (List Int)) : matesB b a = matesB a b := by
  rw [Bool.eq_iff_iff, matesB_iff, matesB_iff]
  constructor
  · rintro ⟨h1, h2, h3, h4⟩; exact ⟨h2, h1, h3.symm, by rw [← h3]; exact h4.symm⟩
  · rintro ⟨h1, h2, h3, h4⟩; exact ⟨h2, h1, h3.symm, by rw [← h3]; exact h4.symm⟩
theorem fullB_of {n : Nat} {a : List (List Int)} (h1 : 1 ≤ n) (h7 : n ≤ 7) (h : IsFull n a) : fullB a = true := by
  have hl := h.shape.1
  rw [fullB_iff, hl]
  exact ⟨h1, h7, h⟩
/-- What Mate returns is a mate. -/
theorem mate_is {a : List (List Int)} (h : mateE a = 0) : matesE a (mateL a) = 0 ∧ matesB a (mateL a) = true := by
  unfold mateE at h
  split at h
  · rename_i hok
    split at h
    · cases h
    · rename_i hne
      obtain ⟨h1, h7, hf⟩ := fullB_iff.1 hok.1
      have hm : MateP a.length a (mateL a) := by
        have e : mateL a = mtF a.length (trans a a.length) a.length 0 (fun _ _ => -1) [] := by unfold mateL; rw [if_pos hok]
        rw [e] at hne ⊢
        exact (mtF_mate h1 hf).2 hne
      have hfm := fullB_of h1 h7 hm.1
      have hl := hm.1.shape.1
      refine ⟨?_, ?_⟩
      · unfold matesE; rw [if_pos ⟨hok.1, hfm, hl.symm⟩]
      · rw [matesB_iff]; exact ⟨hok.1, hfm, hl.symm, hm.2⟩
  · cases h
theorem mateE_when {a b : List (List Int)} (h : matesB a b = true) : (a.length ≤ 5 → mateE a = 0) ∧ (5 < a.length → mateE a = 2) := by
  obtain ⟨fa, fb, hl, ho⟩ := matesB_iff.1 h
  obtain ⟨h1, h7, hf⟩ := fullB_iff.1 fa
  have hfb := (fullB_iff.1 fb).2.2
  rw [← hl] at hfb
  refine ⟨fun h5 => ?_, fun h5 => ?_⟩
  · have hok : mateOk a := ⟨fa, h5⟩
    unfold mateE
    rw [if_pos hok, if_neg]
    intro e
    unfold mateL at e
    rw [if_pos hok] at e
    exact (mtF_mate h1 hf).1 e b ⟨hfb, ho⟩
  · unfold mateE
    rw [if_neg fun h => by have := h.2; omega]
theorem nodup_sub {α : Type} [DecidableEq α] {l m : List α} (hl : l.Nodup) (h : ∀ x ∈ l, x ∈ m) : l.length ≤ m.length := by
  induction l generalizing m with
  | nil => simp
  | cons a l ih =>
    obtain ⟨h1, h2⟩ := List.nodup_cons.1 hl
    have ha := h a (by simp)
    have := ih (m := m.erase a) h2 (fun x hx => by
      have hne : x ≠ a := fun e => h1 (e ▸ hx)
      exact (List.mem_erase_of_ne hne).2 (h x (by simp [hx])))
    rw [List.length_erase_of_mem ha] at this
    have : 0 < m.length := List.length_pos_of_mem ha
    simp only [List.length_cons]
    omega
/-- A bed with a mate has a transversal for each crop of the mate. -/
theorem trans_ge {n : Nat} {b s : List (List Int)} (hn : 0 < n) (hb : IsFull n b) (h : MateP n b s) : n ≤ (trans b n).length := by
  have hnd : ((List.range n).map fun (x : Nat) => posL s n (x : Int)).Nodup := by
    refine List.pairwise_map.2 (List.Pairwise.imp_of_mem (fun {x y} hx hy hxy e => hxy ?_) List.nodup_range)
    have hx := List.mem_range.1 hx
    have hy := List.mem_range.1 hy
    have e1 := posL_get (s := s) (x : Int) hn
    have e2 := posL_get (s := s) (y : Int) hn
    rw [e, e2] at e1
    have a1 := (posN_lt h.1 hn hx).2
    have a2 := (posN_lt h.1 hn hy).2
    rw [← e1, a2] at a1
    omega
  have := nodup_sub hnd (m := trans b n) (fun l hl => by
    obtain ⟨x, hx, rfl⟩ := List.mem_map.1 hl
    exact (mem_trans hb _).2 (posL_tr h (List.mem_range.1 hx)))
  simpa using this
theorem trN_when {a b : List (List Int)} (h : matesB a b = true) : trE b = 0 ∧ ∃ N : Nat, trN b = (N : Int) ∧ a.length ≤ N ∧ N ≤ 1000000 := by
  obtain ⟨fa, fb, hl, ho⟩ := matesB_iff.1 h
  obtain ⟨h1, h7, hf⟩ := fullB_iff.1 fb
  have hfa := (fullB_iff.1 fa).2.2
  unfold trE trN
  rw [if_pos fb, if_pos fb]
  rw [hl] at hfa ho
  exact ⟨rfl, _, rfl, by rw [hl]; exact trans_ge h1 hf ⟨hfa, ho.symm⟩, trans_many h7⟩
/-- The columns and the crops of the places of a crop, as far as they were seen. -/
def colL (n : Nat) (a : List (List Int)) (x p : Nat) : List Bool := (List.range n).map fun c => (List.range p).any fun i => cl n a i == (x : Int) && i % n == c
def crpL (n : Nat) (a b : List (List Int)) (x p : Nat) : List Bool := (List.range n).map fun (y : Nat) => (List.range p).any fun i => cl n a i == (x : Int) && cl n b i == (y : Int)
theorem colL_len (n : Nat) (a : List (List Int)) (x p : Nat) : (colL n a x p).length = n := by simp [colL]
theorem crpL_len (n : Nat) (a b : List (List Int)) (x p : Nat) : (crpL n a b x p).length = n := by simp [crpL]
theorem colL_zero (n : Nat) (a : List (List Int)) (x : Nat) : colL n a x 0 = List.replicate n false := by
  apply List.ext_getElem (by simp [colL])
  intro i _ _
  simp [colL]
theorem crpL_zero (n : Nat) (a b : List (List Int)) (x : Nat) : crpL n a b x 0 = List.replicate n false := by
  apply List.ext_getElem (by simp [crpL])
  intro i _ _
  simp [crpL]
theorem colL_other {n : Nat} {a : List (List Int)} {x p : Nat} (h : cl n a p ≠ x) : colL n a x (p + 1) = colL n a x p := by
  have e : (cl n a p == (x : Int)) = false := by simpa using h
  unfold colL
  refine List.map_congr_left fun c _ => ?_
  rw [List.range_succ, List.any_append]
  simp [e]
theorem crpL_other {n : Nat} {a b : List (List Int)} {x p : Nat} (h : cl n a p ≠ x) : crpL n a b x (p + 1) = crpL n a b x p := by
  have e : (cl n a p == (x : Int)) = false := by simpa using h
  unfold crpL
  refine List.map_congr_left fun c _ => ?_
  rw [List.range_succ, List.any_append]
  simp [e]
theorem colL_hit {n : Nat} {a : List (List Int)} {x p c : Nat} (h : cl n a p = x) (hc : p % n = c) : colL n a x (p + 1) = (colL n a x p).set c true := by
  apply List.ext_getElem (by simp [colL])
  intro i h1 h2
  simp only [colL, List.getElem_map, List.getElem_range, List.getElem_set, List.range_succ, List.any_append, List.any_cons, List.any_nil, Bool.or_false, h, hc, beq_self_eq_true, Bool.true_and]
  by_cases e : c = i
  · rw [if_pos e]; simp [e]
  · rw [if_neg e]; simp [e]
theorem crpL_hit {n : Nat} {a b : List (List Int)} {x p y : Nat} (h : cl n a p = x) (hy : cl n b p = y) : crpL n a b x (p + 1) = (crpL n a b x p).set y true := by
  apply List.ext_getElem (by simp [crpL])
  intro i h1 h2
  simp only [crpL, List.getElem_map, List.getElem_range, List.getElem_set, List.range_succ, List.any_append, List.any_cons, List.any_nil, Bool.or_false, h, hy, beq_self_eq_true, Bool.true_and]
  by_cases e : y = i
  · rw [if_pos e]; simp [e]
  · rw [if_neg e]
    have : ¬ ((y : Int) = (i : Int)) := by omega
    simp [this]
theorem colL_miss {n : Nat} {a : List (List Int)} {x p c : Nat} (fa : IsFull n a) (hp : p < n * n) (h : cl n a p = x) (hc : p % n = c) : (colL n a x p).getD c false = false := by
  obtain ⟨p1, p2, p3⟩ := idx_split hp
  rw [hc] at p2 p3
  have e : (colL n a x p).getD c false = (List.range p).any fun i => cl n a i == (x : Int) && i % n == c := by simp [colL, List.getD_eq_getElem?_getD, p2]
  rw [e, List.any_eq_false]
  intro i hi
  have hi := List.mem_range.1 hi
  obtain ⟨i1, i2, i3⟩ := idx_split (show i < n * n by omega)
  simp only [Bool.and_eq_true, beq_iff_eq, not_and]
  intro h1 h2
  rw [h2] at i2 i3
  have hne : i / n ≠ p / n := fun e => by rw [e] at i3; omega
  unfold cl at h h1
  rw [hc] at h
  rw [h2] at h1
  exact fa.once.2 _ _ _ i1 p1 i2 hne (fa.lo _ _ i1 i2).1 (by rw [h1, h])
theorem crpL_miss {n : Nat} {a b : List (List Int)} {x p y : Nat} (ho : OrthP n a b) (hp : p < n * n) (hyn : y < n) (h : cl n a p = x) (hy : cl n b p = y) : (crpL n a b x p).getD y false = false := by
  obtain ⟨p1, p2, p3⟩ := idx_split hp
  have e : (crpL n a b x p).getD y false = (List.range p).any fun i => cl n a i == (x : Int) && cl n b i == (y : Int) := by simp [crpL, List.getD_eq_getElem?_getD, hyn]
  rw [e, List.any_eq_false]
  intro i hi
  have hi := List.mem_range.1 hi
  obtain ⟨i1, i2, i3⟩ := idx_split (show i < n * n by omega)
  simp only [Bool.and_eq_true, beq_iff_eq, not_and]
  intro h1 h2
  have := ho _ _ _ _ i1 i2 p1 p2 (show cl n a i = cl n a p by rw [h1, h]) (show cl n b i = cl n b p by rw [h2, hy])
  rw [this.1, this.2] at i3
  omega
/-! ### the walk -/
set_option maxRecDepth 100000 in
set_option maxHeartbeats 8000000 in
theorem f8_no (A : Option Addr) (n c : Nat) (a : List (List Int)) (B : Option Addr) (m d : Nat) (b : List (List Int)) (w : World) (ha : CameB w A n c a) (hb : CameB w B m d b) (ht : Tab w) (hf : fewB (a.map List.length) = true) (hf2 : fewB (b.map List.length) = true) (hmb : matesB a b = false) :
    Calls Tryd.prog 8 #[.slice A n c, .slice B m d] w fun e w' => e = .returned (.bool true) ∧ Below w.heap.size w w' := by
  have K16 := Lib.hid (f16_any A c n (a.map List.length) w ha.1)
  have K16b := Lib.hid (f16_any B d m (b.map List.length) w hb.1)
  rw [hf] at K16
  rw [hf2] at K16b
  have K17 : Hid (∀ W, Below w.heap.size w W → Calls Tryd.prog 17 #[] W fun e w' => e = .returned (.bool true) ∧ Below W.heap.size W w') := Lib.hid fun W h => f17_any W (ht.below h)
  have hA := ha.beds hf
  have hB := hb.beds hf2
  have HA := Lib.hid hA
  have HB := Lib.hid hB
  have hla := hA.len
  have hlb := hB.len
  clear ha hb hf hf2 ht hA hB
  have K32 : Hid (∀ W, Below w.heap.size w W → Calls Tryd.prog 32 #[.slice A n c, .slice B m d] W fun e w' => e = .returned (.tuple #[.bool (matesB a b), .int .i64 (matesE a b)]) ∧ Below W.heap.size W w') := Lib.hid fun W h => f32_any A B n m c d a b W (HA.out.below h) (HB.out.below h)
  have K32b : Hid (∀ W, Below w.heap.size w W → Calls Tryd.prog 32 #[.slice B m d, .slice A n c] W fun e w' => e = .returned (.tuple #[.bool (matesB a b), .int .i64 (matesE a b)]) ∧ Below W.heap.size W w') := Lib.hid fun W h => by
    have h := f32_any B A m n d c b a W (HB.out.below h) (HA.out.below h)
    rw [matesB_comm, matesE_comm] at h
    exact h
  have K22 : Hid (∀ W, Below w.heap.size w W → Calls Tryd.prog 22 #[.slice A n c] W fun e w' => ∃ A' k c', e = .returned (.tuple #[.slice A' k c', .int .i64 (mateE a)]) ∧ Beds w' A' k c' (mateL a) ∧ Below W.heap.size W w') := Lib.hid fun W h => (f22_any A n c a W (HA.out.below h)).mono fun _ _ ⟨A', k, c', h1, h2, h3⟩ => ⟨A', k, c', h1, h2.beds, h3⟩
  rw [hmb] at K32 K32b
  obtain ⟨x2, hx2⟩ : ∃ z, z = matesE a b := ⟨_, rfl⟩
  rw [← hx2] at K32 K32b
  have q2 : (x2 != x2) = false := by simp
  clear hx2
  have hx0 : (x2 != 0) = true ∨ x2 = 0 := by
    by_cases h : x2 = 0
    · exact .inr h
    · exact .inl (by simpa using h)
  by_cases h0 : mateE a = 0
  · have HMI := Lib.hid (mate_is h0)
    rw [h0] at K22
    clear h0
    rcases hx0 with hx0 | rfl
    all_goals
      go_enter Tryd.func8, Tryd.ntmps8
      go_wp2_with fail
      refine K16.out.mono ?_
      rintro e w1 ⟨rfl, rfl⟩
      go_wp2_with fail
      refine K16b.out.mono ?_
      rintro e w1 ⟨rfl, rfl⟩
      go_wp2_with fail
      refine (K32.out w (Below.refl _ _)).mono ?_
      rintro e w2 ⟨rfl, hb2⟩
      have B2 := Lib.hid hb2
      clear hb2
      go_wp2_with fail
      refine (K32b.out w2 B2.out).mono ?_
      rintro e w3 ⟨rfl, hb3⟩
      have B3 := Lib.hid (below_step B2.out hb3)
      clear hb3 B2
      go_wp2_with fail
      refine (K22.out w3 B3.out).mono ?_
      rintro e w4 ⟨A4, k4, c4, rfl, h4, hb4⟩
      have H4 := Lib.hid h4
      have B4 := Lib.hid (below_step B3.out hb4)
      clear h4 hb4 B3
      have K32m := Lib.hid (f32_any A A4 n k4 c c4 a (mateL a) w4 (HA.out.below B4.out) H4.out)
      rw [HMI.out.1, HMI.out.2] at K32m
      go_wp2_with fail
      refine K32m.out.mono ?_
      rintro e w5 ⟨rfl, hb5⟩
      have B5 := Lib.hid (below_step B4.out hb5)
      clear hb5 B4 K32m
      go_wp2_with fail
      refine (K17.out _ B5.out).mono ?_
      rintro e w6 ⟨rfl, hb6⟩
      have B6 := Lib.hid (below_step B5.out hb6)
      clear hb6
      go_wp2
      go_ret
      exact ⟨rfl, B6.out⟩
  · obtain ⟨x8, hx8⟩ : ∃ z, z = mateE a := ⟨_, rfl⟩
    rw [← hx8] at K22 h0
    have q8 : (x8 == 0) = false := by simpa using h0
    clear h0 hx8
    rcases hx0 with hx0 | rfl
    all_goals
      go_enter Tryd.func8, Tryd.ntmps8
      go_wp2_with fail
      refine K16.out.mono ?_
      rintro e w1 ⟨rfl, rfl⟩
      go_wp2_with fail
      refine K16b.out.mono ?_
      rintro e w1 ⟨rfl, rfl⟩
      go_wp2_with fail
      refine (K32.out w (Below.refl _ _)).mono ?_
      rintro e w2 ⟨rfl, hb2⟩
      have B2 := Lib.hid hb2
      clear hb2
      go_wp2_with fail
      refine (K32b.out w2 B2.out).mono ?_
      rintro e w3 ⟨rfl, hb3⟩
      have B3 := Lib.hid (below_step B2.out hb3)
      clear hb3 B2
      go_wp2_with fail
      refine (K22.out w3 B3.out).mono ?_
      rintro e w4 ⟨A4, k4, c4, rfl, h4, hb4⟩
      have H4 := Lib.hid h4
      have B4 := Lib.hid (below_step B3.out hb4)
      clear h4 hb4 B3
      have B5 := Lib.hid B4.out
      clear B4
      go_wp2_with fail
      refine (K17.out _ B5.out).mono ?_
      rintro e w6 ⟨rfl, hb6⟩
      have B6 := Lib.hid (below_step B5.out hb6)
      clear hb6
      go_wp2
      go_ret
      exact ⟨rfl, B6.out⟩
end Go.Proofs.YtiodednhadnekaaDoor
