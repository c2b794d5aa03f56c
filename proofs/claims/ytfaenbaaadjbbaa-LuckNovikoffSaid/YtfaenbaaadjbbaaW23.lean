/- Walks: Weighing. -/
import Derived.Test.YtfaenbaaadjbbaaW22
namespace Go.Proofs.Ytfaenbaaadjbbaa
open Go.RowKit

theorem m78f (p : Nat) (w : World) : (method 249 78 (.pointer (some ⟨p, 0, none⟩)) "dibber/luck.foretell").run Try.prog w = .ok (103, .pointer (some ⟨p, 0, none⟩)) w := by kernel_rfl
theorem m78l (p : Nat) (w : World) : (method 249 78 (.pointer (some ⟨p, 0, none⟩)) "dibber/luck.learn").run Try.prog w = .ok (64, .pointer (some ⟨p, 0, none⟩)) w := by kernel_rfl
theorem n78l (p : Nat) (w : World) : (nilAhead 249 78 (.pointer (some ⟨p, 0, none⟩)) "dibber/luck.learn").run Try.prog w = .ok (some false) w := by kernel_rfl
theorem enter103 (args : Array Value) (w : World) : (callFunc 103 args).run Try.prog w = .ok (.enter 103 args) w := by simp [go_sem]
theorem enter64 (args : Array Value) (w : World) : (callFunc 64 args).run Try.prog w = .ok (.enter 64 args) w := by simp [go_sem]

theorem recErr_facts {n : Int} {said : List (List Int)} {came : List Int} (h : recErr n said came = 0) : ∃ N : Nat, n = N ∧ 1 ≤ N ∧ N ≤ 20 ∧ said.length ≤ 200 ∧ came.length = said.length ∧ (∀ i, i < said.length → (said.getD i []).length = N ∧ (said.getD i []).all bitB = true) ∧ came.all bitB = true := by
  unfold recErr at h
  split at h
  · rename_i h1
    split at h
    · rename_i h2
      split at h
      · rename_i h3
        rw [Bool.and_eq_true, List.all_eq_true] at h3
        obtain ⟨h3, h4⟩ := h3
        obtain ⟨N, rfl⟩ := nat_of n (by omega)
        unfold bitsB at h4
        rw [Bool.and_eq_true, decide_eq_true_eq] at h4
        refine ⟨N, rfl, by omega, by omega, h2, by omega, fun i hi => ?_, h4.2⟩
        have := h3 _ (List.getElem_mem hi)
        unfold bitsB at this
        rw [Bool.and_eq_true, decide_eq_true_eq] at this
        have e : said.getD i [] = said[i] := by simp [List.getD_eq_getElem?_getD, hi]
        rw [e]
        exact ⟨by omega, this.2⟩
      · omega
    · omega
  · omega
theorem recErr_in (n : Int) (said : List (List Int)) (came : List Int) : 0 ≤ recErr n said came ∧ recErr n said came ≤ 3 := by
  unfold recErr; split <;> (try split) <;> (try split) <;> omega
/-- What a listener knows who counts faults. -/
def StF (p g n : Nat) (said : List (List Int)) (came : List Int) (i : Nat) (w : World) : Prop := w.cell? ⟨p, 0, none⟩ = some (.slice (some ⟨g, 0, none⟩) n n) ∧ Own w g (wrL said came n i)
theorem cell_same {w w' : World} {p o : Nat} {v : Value} (h : w.cell? ⟨p, o, none⟩ = some v) (e : w'.heap[p]? = w.heap[p]?) : w'.cell? ⟨p, o, none⟩ = some v := by
  unfold World.cell? at h ⊢
  simp only at h ⊢
  rw [e]; exact h
theorem StF.keep {p g n : Nat} {said : List (List Int)} {came : List Int} {i : Nat} {w w' : World} (h : StF p g n said came i w) (h1 : w'.heap[p]? = w.heap[p]?) (h2 : w'.heap[g]? = w.heap[g]?) : StF p g n said came i w' :=
  ⟨cell_same h.1 h1, h2.trans h.2⟩
theorem wrL_in (said : List (List Int)) (came : List Int) (n i : Nat) (hi : i ≤ 200) (j : Nat) : 0 ≤ (wrL said came n i).getD j 0 ∧ (wrL said came n i).getD j 0 ≤ 200 := by
  by_cases hj : j < n
  · rw [wrL_get hj]
    have := wr_le said came j i
    omega
  · have : (wrL said came n i).getD j 0 = 0 := by
      rw [List.getD_eq_getElem?_getD, List.getElem?_eq_none (by rw [wrL_len]; omega)]; rfl
    omega
theorem StF.learn {p g n e i : Nat} {D : Option Addr} {said : List (List Int)} {came : List Int} {W : World} (hn : 0 < n) (hl : (said.getD i []).length = n) (hi : i ≤ 200) (hpg : p ≠ g)
    (hI : Ints W D (said.getD i []).length (said.getD i [])) (hD : 0 < (said.getD i []).length → ∀ b off, D = some ⟨b, off, none⟩ → b ≠ g) (hst : StF p g n said came i W) :
    Calls Try.prog 64 #[.pointer (some ⟨p, 0, none⟩), .slice D (said.getD i []).length e, .int .i64 (came.getD i 0)] W fun e w' => e = .returned (.tuple #[]) ∧ StF p g n said came (i + 1) w' ∧ W.grownBy w' (some g) := by
  rw [hl] at hI hD ⊢
  refine (f64_any p g n e D _ _ _ W hI hst.1 hst.2 (wrL_len _ _ _ _) hpg (hD hn) (fun j => by have := wrL_in said came n i hi j; omega)).mono ?_
  rintro e w' ⟨rfl, ys, h1, h2, h3, h4⟩
  refine ⟨rfl, ⟨h4.cell hst.1 (fun e => hpg (by injection e)), ?_⟩, h4⟩
  have : ys = wrL said came n (i + 1) := by
    apply List.ext_getElem (by rw [h2, wrL_len])
    intro j hj1 hj2
    have hj : j < n := by omega
    have e1 := h3 j hj
    rw [wrL_get hj] at e1
    have e2 := wrL_get (said := said) (came := came) (i := i + 1) hj
    have e3 : (wr said came j (i + 1) : Int) = (wr said came j i : Int) + if (said.getD i []).getD j 0 = came.getD i 0 then 0 else 1 := by
      simp only [wr]; split <;> simp
    rw [e3, ← e1] at e2
    simpa [List.getD_eq_getElem?_getD, hj1, hj2] using e2.symm
  rw [← this]; exact h1
def weighF (said : List (List Int)) (came : List Int) (n i : Nat) : Int := weighs (said.getD i []) (wrL said came n i)
def tellW (n : Int) (said : List (List Int)) (came : List Int) : List Int := if recErr n said came = 0 then toldL (weighF said came n.toNat) said.length else []
def timesW (n : Int) (said : List (List Int)) (came : List Int) : List Int := if recErr n said came = 0 then wrL said came n.toNat said.length else []
/-- Two new lists and an error came back. -/
def SlSl (w : World) (xs ys : List Int) (err : Int) (e : Ending) (w' : World) : Prop :=
  ∃ A k c A' k' c', e = .returned (.tuple #[.slice A k c, .slice A' k' c', .int .i64 err]) ∧ Ints w' A k xs ∧ Ints w' A' k' ys ∧ Below w.heap.size w w'
set_option maxRecDepth 100000 in
set_option maxHeartbeats 4000000 in
theorem f31_good (A B : Option Addr) (n k c d : Nat) (said : List (List Int)) (came : List Int) (w : World) (hs : IntsS w A k said) (ho : Ints w B k came) (h0 : recErr n said came = 0) (hn1 : 1 ≤ n) (hn : n ≤ 20) (hk : k ≤ 200)
    (hrow : ∀ i, i < k → (said.getD i []).length = n) :
    Calls Try.prog 31 #[.int .i64 (n : Int), .slice A k c, .slice B k d] w (SlSl w (toldL (weighF said came n) k) (wrL said came n k) 0) := by
  have k60 := Lib.hid (f60_any A B n k c k d said came w hs ho)
  rw [h0] at k60
  have HS := Lib.hid hs
  have HO := Lib.hid ho
  have HR := Lib.hid hrow
  clear hs ho h0 hrow
  go_enter Try.func31, Try.ntmps31
  go_wp2_with fail
  refine k60.out.mono ?_
  rintro e w1 ⟨rfl, hb⟩
  have B1 := Lib.hid hb
  clear hb
  have hmk := make_ints n (by omega) w1
  obtain ⟨w2, hw2⟩ : ∃ w2, w2 = w1.alloc (.cells ((List.replicate n (0 : Int)).map (Value.int .i64)).toArray 3) := ⟨_, rfl⟩
  rw [← hw2] at hmk
  have hz2 : w2.heap.size = w1.heap.size + 1 := by rw [hw2]; simp
  have B2 : Hid (Below w.heap.size w w2) := by rw [hw2]; exact below_step B1.out (below_alloc _ _)
  have O2 : Hid (Own w2 w1.heap.size (wrL said came n 0)) := by rw [hw2, wrL_zero]; exact Own.made w1 n
  have HZ2 := Lib.hid hz2
  clear hw2 hz2
  have S0 : Hid (StF w2.heap.size w1.heap.size n said came 0 (w2.alloc (.cells #[.slice (some ⟨w1.heap.size, 0, none⟩) n n] 82))) := ⟨cell_new _ _ _ _, O2.out.alloc _⟩
  have hz1 : w.heap.size ≤ w1.heap.size := B1.out.size
  have hbig : Hid (∀ W : World, W.heap = (w2.alloc (.cells #[.slice (some ⟨w1.heap.size, 0, none⟩) n n] 82)).heap → Below w.heap.size w W → Calls Try.prog 61 #[.iface 78 (.pointer (some ⟨w2.heap.size, 0, none⟩)), .slice A k c, .slice B k d] W
      fun e w' => ∃ v, e = .returned v ∧ Row w' W.heap.size v (toldL (weighF said came n) k) ∧ Below w.heap.size w w' ∧ StF w2.heap.size w1.heap.size n said came k w') := fun W hW hB =>
    f61_any 78 103 64 w2.heap.size w1.heap.size k c d A B said came (weighF said came n) (StF w2.heap.size w1.heap.size n said came) w W (m78f _) (m78l _) (n78l _) enter103 enter64 HS.out HO.out hk hB
      (by rw [HZ2.out]; omega) hz1 (by rw [hW]; simp) (by rw [hW]; simp [HZ2.out]; omega) (S0.out.keep (by rw [hW]) (by rw [hW])) (fun i w w' h1 h2 h3 => h1.keep h2 h3)
      (fun i hi W D e hI hst => by
        have hl := HR.out i hi
        rw [hl] at hI ⊢
        exact f103_any _ _ n e D _ _ W hI hst.1 hst.2 (wrL_len _ _ _ _) (by omega) hn (wrL_in said came n i (by omega)))
      (fun i hi W D e hI hD hst => StF.learn (by omega) (HR.out i hi) (by omega) (by rw [HZ2.out]; omega) hI hD hst)
  have B3 := Lib.hid (B2.out.alloc B2.out.size (.cells #[.slice (some ⟨w1.heap.size, 0, none⟩) n n] 82))
  have hcp := S0.out.1
  clear hz1
  go_wp2_with fail
  go_region_held3 (fun w' => w'.cell? ⟨w2.heap.size, 0, none⟩ = some (.slice (some ⟨w1.heap.size, 0, none⟩) n n))
    (first | go_keep | exact hst.1)
    ((go_at_call 61; refine (hbig.out (w2.alloc (.cells #[.slice (some ⟨w1.heap.size, 0, none⟩) n n] 82)).drew rfl (below_drewN B3.out 1)).mono ?_; rintro e w4 ⟨v, rfl, hrow, hb4, hst⟩))
  obtain ⟨A4, c4, hv, hi4⟩ := hrow.form
  have hi4 := hi4 200 (by rw [toldL_len]; omega) (by omega)
  rw [toldL_len] at hv hi4
  subst hv
  have HI4 := Lib.hid hi4
  have HB4 := Lib.hid hb4
  have HT4 := Lib.hid (hst.2.ints' (wrL_len said came n k) (by omega))
  clear hrow hi4 hb4 hst
  go_wp2
  go_ret3
  exact ⟨_, _, _, _, _, _, rfl, HI4.out, HT4.out, HB4.out⟩
end Go.Proofs.Ytfaenbaaadjbbaa
