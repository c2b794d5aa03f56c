/- Walks: Corners. -/
import Derived.Test.YtpehhbiodmgjeaaW47
import Derived.Test.YtpehhbiodmgjeaaW49
import Derived.Test.YtpehhbiodmgjeaaW9
namespace Go.Proofs.Ytpehhbiodmgjeaa
open Go.RowKit
theorem range_get {α : Type} (l : List α) (d : α) : (List.range l.length).map (fun j => l.getD j d) = l := by
  apply List.ext_getElem
  · simp
  · intro i h1 h2
    simp [List.getD_eq_getElem?_getD, h2]
theorem map_get {α : Type} (p : List Nat) (f : Nat → α) (d : α) {i : Nat} (h : i < p.length) : (p.map f).getD i d = f (p.getD i 0) := by
  simp [List.getD_eq_getElem?_getD, h]
theorem NewR.perm {w : World} {B : Nat} {vs : List Value} {T : List (List Int)} (h : NewR w B vs T) {p : List Nat} (hp : p.Perm (List.range T.length)) : NewR w B (p.map fun j => vs.getD j (.int .i64 0)) (p.map fun j => T.getD j []) := by
  have hl : p.length = T.length := by rw [hp.length_eq, List.length_range]
  have h1 : (p.map fun j => vs.getD j (.int .i64 0)).Perm vs := by
    have := hp.map fun j => vs.getD j (.int .i64 0)
    rw [← h.1, range_get] at this
    exact this
  refine ⟨by simp, ((h1.map blkV).nodup_iff).2 h.2.1, fun j hj => ?_⟩
  rw [List.length_map] at hj
  rw [map_get p _ _ hj, map_get p _ _ hj]
  refine h.2.2 _ ?_
  have : p.getD j 0 ∈ List.range T.length := hp.mem_iff.1 (by rw [List.getD_eq_getElem?_getD, List.getElem?_eq_getElem hj]; exact List.getElem_mem hj)
  exact List.mem_range.1 this
theorem NewR.sub {w : World} {B : Nat} {vs V : List Value} {T K : List (List Int)} (h : NewR w B vs T) (hs : V.Sublist vs) (hl : V.length = K.length) (hr : ∀ i, i < V.length → OwnRow w B (V.getD i (.int .i64 0)) (K.getD i [])) : NewR w B V K :=
  ⟨hl, h.2.1.sublist (hs.map blkV), fun j hj => hr j (by omega)⟩
theorem OwnRow.far {w w' : World} {B g : Nat} {v : Value} {l : List Int} (h : OwnRow w B v l) (hne : blkV v ≠ g) (k : w.grownBy w' (some g)) : OwnRow w' B v l := by
  obtain ⟨b, h1, rfl, h2, h4⟩ := h
  exact ⟨b, h1, rfl, (k.block b h2.lt fun e => hne (by injection e)).trans h2, h4⟩
theorem OwnRow.lie {w : World} {B g : Nat} {v : Value} {l : List Int} (h : OwnRow w B v l) (hne : blkV v ≠ g) : LieW w g v l := by
  obtain ⟨b, h1, rfl, h2, h4⟩ := h
  exact ⟨_, _, rfl, Nat.le_refl _, fun e => (by cases e), h2.ints (by omega), fun a e => by cases e; exact ⟨hne, h2.lt⟩⟩
/-- A list of new rows. -/
def Crn (w : World) (B : Nat) (A : Option Addr) (c : Nat) (T : List (List Int)) : Prop :=
  T.length ≤ c ∧ (A = none → T.length = 0 ∧ c = 0) ∧ ∃ V, NewR w B V T ∧ (0 < T.length → ∃ g, A = some ⟨g, 0, none⟩ ∧ B ≤ g ∧ ∀ j, j < T.length → w.cell? ⟨g, j, none⟩ = some (V.getD j (.int .i64 0)) ∧ blkV (V.getD j (.int .i64 0)) ≠ g)
theorem crn_nil (w : World) (B : Nat) : Crn w B none 0 [] := ⟨Nat.le_refl _, fun _ => ⟨rfl, rfl⟩, [], NewR.nil w B, fun h => by cases h⟩
theorem gathered {w : World} {B : Nat} {v : Value} {vs : List Value} {T : List (List Int)} (h : RowV w B v vs) (hn : NewR w B vs T) (hT : 0 < T.length) : ∃ g cap, v = .slice (some ⟨g, 0, none⟩) T.length cap ∧ T.length ≤ cap ∧ B ≤ g ∧ g < w.heap.size ∧ (∃ cur, w.heap[g]? = some (.cells cur 22 (0, 0))) ∧ CellsV w g vs ∧ ∀ j, j < T.length → blkV (vs.getD j (.int .i64 0)) ≠ g := by
  rcases h.2 with ⟨e, hn0⟩ | ⟨g, cap, cur, e, hb, hh, hc, hm, hsz, ht⟩
  · rw [hn.1] at hn0; omega
  · rw [hn.1] at e hc
    refine ⟨g, cap, e, hc, hb, lt_of_block hh, ⟨cur, hh⟩, fun j hj => ⟨?_, by simp [World.frozen?, hh]⟩, fun j hj hbe => ?_⟩
    · rw [cell_of_row w g j cur 22 (0, 0) hh]
      rw [Nat.mul_one] at ht
      have h3 : (cur.toList.take vs.length)[j]? = cur.toList[j]? := List.getElem?_take_of_lt hj
      rw [ht] at h3
      rw [← Array.getElem?_toList, ← h3, List.getElem?_eq_getElem hj]
      simp [List.getD_eq_getElem?_getD, hj]
    · obtain ⟨b, _, ev, ho, _⟩ := hn.2.2 j hj
      rw [ev] at hbe
      have hbe : b = g := hbe
      subst hbe
      unfold Own at ho
      rw [hh] at ho
      injection ho with ho
      injection ho with _ h6 _
      exact absurd h6 (by decide)
theorem gsL_pos (n : Nat) (xs : List Int) : 0 < (gsL n xs).length := by
  rw [gsL_len]
  exact List.length_pos_of_mem (ord_mem.2 ⟨by simp, List.nodup_range, fun x hx => List.mem_range.1 hx⟩ : List.range n ∈ ordF n n [])
theorem one_box (w : World) (z u : Value) (t : TypeId) : (w.alloc (.cells #[z] t)).cell? ⟨w.heap.size, 0, none⟩ = some z ∧ (w.alloc (.cells #[z] t)).frozen? ⟨w.heap.size, 0, none⟩ = false ∧
    ∃ W, (w.alloc (.cells #[z] t)).setCell ⟨w.heap.size, 0, none⟩ u = W ∧ Box W w.heap.size u t ∧ Below w.heap.size w W ∧ W.heap.size = w.heap.size + 1 := by
  have a1 : (w.alloc (.cells #[z] t)).heap[w.heap.size]? = some (.cells #[z] t (0, 0)) := heap_alloc_new w _
  have s1 : (w.alloc (.cells #[z] t)).heap.size = w.heap.size + 1 := by simp
  have c1 := (Box.new w z t).cell
  obtain ⟨w1, hw1⟩ : ∃ y, y = w.alloc (.cells #[z] t) := ⟨_, rfl⟩
  have b1 : Below w.heap.size w w1 := by rw [hw1]; exact below_alloc w _
  rw [← hw1] at a1 s1 c1 ⊢
  refine ⟨c1, by simp [World.frozen?, a1], _, rfl, ?_, b1.setCell (Nat.le_refl _) _, by rw [← s1]; simp [World.setCell]⟩
  unfold Box
  simp [World.setCell, Array.getElem?_modify, a1]
theorem Box.far5 {w w' : World} {q g : Nat} {v : Value} {t : TypeId} (h : Box w q v t) (hne : g ≠ q) (k : w.grownBy w' (some g)) : Box w' q v t := (k.block q (lt_of_block h) fun e => hne (by injection e with e; exact e.symm)).trans h
theorem oneCell_row {w : World} {B : Nat} {v : Value} {l : List Int} (h : OwnRow w B v l) : v.oneCell' = true := by
  obtain ⟨b, _, rfl, _⟩ := h
  rfl
set_option maxRecDepth 100000 in
set_option maxHeartbeats 8000000 in
/-- share.Corners -/
theorem f41_any (A : Option Addr) (n : Int) (len c : Nat) (xs : List Int) (w : World) (hs : Ints w A len xs) :
    Calls Try.prog 41 #[.int .i64 n, .slice A len c] w fun e w' => ∃ A' c', e = .returned (.tuple #[.slice A' (cornersL n xs).length c', .int .i64 (asked n xs)]) ∧ Crn w' w.heap.size A' c' (cornersL n xs) ∧ Below w.heap.size w w' := by
  by_cases h : asked n xs = 0
  · obtain ⟨hok, hT⟩ := asked_zero h
    obtain ⟨n', rfl, h1, h6, hln, hbd, h0⟩ := costOk_facts hok
    have HN : Hid (asked (n' : Int) xs = 0) := Lib.hid h
    have HCL : Hid (cornersL (n' : Int) xs = putAll (gsL n' xs)) := Lib.hid (by unfold cornersL; rw [if_pos h, Int.toNat_natCast]; rfl)
    have k44 := Lib.hid (f44_yes A n' len c xs w hs h)
    have HL : Hid (len = 2 ^ n') := by rw [← hs.len]; exact hln
    have HBD := Lib.hid hbd
    have hmf : ∀ (fn : Fn) (first cap : Array Value) (w : World), (Instr.makeFunc fn first cap).run Try.prog w = .ok (.func fn first cap) w := fun _ _ _ _ => rfl
    clear h hok hT hln h0 hs hbd
    go_enter Try.func41, Try.ntmps41
    go_wp2_with fail
    refine k44.out.mono ?_
    rintro e w1 ⟨p, rfl, hc, hi, hb, _⟩
    obtain ⟨hz1, hz2, W, hW, hbx, hbW, hsW⟩ := one_box w1 (.pointer none) (.pointer (some ⟨p, 0, none⟩)) 52
    have HC := Lib.hid hc
    have HI := Lib.hid hi
    have HB1 := Lib.hid hb
    have HBX := Lib.hid hbx
    have HBW := Lib.hid hbW
    have HSW := Lib.hid hsW
    have hcC := (hbx.below (below_alloc W (.cells #[.slice none 0 0] 33))).cell
    have HB2 : Hid (Below W.heap.size W (W.alloc (.cells #[.slice none 0 0] 33))) := Lib.hid (below_alloc W _)
    have K74 := Lib.hid (f74_any W W.heap.size w1.heap.size p n' len c A xs ⟨hbx.cell, hc.below hbW, hi.below hbW, h6, HL.out, HBD.out⟩ rfl (W.alloc (.cells #[.slice none 0 0] 33)) HB2.out ⟨.slice none 0 0, [], Box.new W _ _, RowV.nil _ _, Rows3.nil _, NewR.nil _ _⟩)
    have HB3 : Hid (Below w.heap.size w W) := Lib.hid (below_step HB1.out HBW.out)
    have hsz := HB3.out.size
    clear hc hi hb hbx hbW hsW
    go_wp2_with fail
    refine K74.out.mono ?_
    rintro e w4 ⟨rfl, ⟨v4, vs4, hb4, hr4, hrs4, hn4⟩, hk4⟩
    obtain ⟨g, cap, rfl, hcap, hBg, hgl, ⟨cur, hg22⟩, hcv, hne⟩ := gathered hr4 hn4 (gsL_pos n' xs)
    have HGL : Hid ((gsL n' xs).length ≤ 46656) := Lib.hid (by rw [gsL_len]; exact ord_many h6)
    have hpos := gsL_pos n' xs
    have HMEM : Hid (∀ p : List Nat, p.Perm (List.range (gsL n' xs).length) → (p.map fun j => (gsL n' xs).getD j []).Pairwise (fun a b => ¬ cmpL b a < 0) → compF (p.map fun j => (gsL n' xs).getD j []) = putAll (gsL n' xs)) := Lib.hid fun p hp hs => by
      refine comp_put hs fun y => ?_
      have := hp.map fun j => (gsL n' xs).getD j []
      rw [range_get] at this
      exact this.mem_iff
    generalize gsL n' xs = T at *
    have hb4c := hb4.cell
    have hM6 := HGL.out
    have K76 := Lib.hid (f76_rows g T.length cap vs4 T w4 hpos hn4.1 rfl (by omega) (fun j hj => oneCell_row (hn4.2.2 j hj)) hcv hgl (fun j hj => ((hn4.2.2 j hj).lie (hne j hj)).lies))
    have HN4 := Lib.hid hn4
    have HNE := Lib.hid hne
    have HB4 : Hid (Below w.heap.size w w4) := Lib.hid (HB3.out.trans (hk4.below HB2.out HB2.out.size |>.mono hsz))
    have HBX4 := Lib.hid hb4
    have HGB : Hid (g ≠ W.heap.size) := Lib.hid fun e => by
      subst e
      unfold Box at hb4
      rw [hg22] at hb4
      injection hb4 with hb4
      injection hb4 with _ h6 _
      exact absurd h6 (by decide)
    clear hb4 hr4 hrs4 hn4 hk4 hcv hne hg22
    go_wp2_with fail
    refine K76.out.mono ?_
    rintro e w5 ⟨rfl, pp, hperm, hsort, hcells, _, _, hgr⟩
    have hb5c := (HBX4.out.far5 HGB.out hgr).cell
    have hpl : pp.length = T.length := by rw [hperm.length_eq, List.length_range]
    have hplt : ∀ j, j < T.length → pp.getD j 0 < T.length := fun j hj => by
      have : pp.getD j 0 ∈ List.range T.length := hperm.mem_iff.1 (by rw [List.getD_eq_getElem?_getD, List.getElem?_eq_getElem (show j < pp.length by omega)]; exact List.getElem_mem _)
      exact List.mem_range.1 this
    have HN5 : Hid (NewR w5 W.heap.size (pp.map fun j => vs4.getD j (.int .i64 0)) (pp.map fun j => T.getD j [])) := Lib.hid (by
      have h := HN4.out.perm hperm
      refine ⟨h.1, h.2.1, fun j hj => (h.2.2 j hj).far ?_ hgr⟩
      rw [List.length_map, hpl] at hj
      rw [map_get pp _ _ (by omega)]
      exact HNE.out _ (hplt j hj))
    have K79 := Lib.hid (f79_rows g T.length cap (pp.map fun j => vs4.getD j (.int .i64 0)) (pp.map fun j => T.getD j []) w5 (fun v l => OwnRow w5 W.heap.size v l ∧ blkV v ≠ g) (fun v l h => h.1.lie h.2) hpos (by rw [List.length_map, hpl]) (by rw [List.length_map, hpl]) (by omega) hcap hcells (fun j hj => ⟨HN5.out.2.2 j (by rw [List.length_map, hpl]; exact hj), by
      rw [map_get pp _ _ (by omega)]
      exact HNE.out _ (hplt j hj)⟩))
    rw [HMEM.out pp hperm hsort] at K79
    have HB5 : Hid (Below w.heap.size w w5) := Lib.hid (HB4.out.grown hgr HB4.out.size (fun k e => by injection e with e; omega))
    have HPP : Hid (T.length = pp.length) := Lib.hid hpl.symm
    clear hperm hsort hcells hgr hpl hplt
    go_wp2_with fail
    refine K79.out.mono ?_
    rintro e w6 ⟨rfl, hg6, V, hV1, hV2, hV3, hV4⟩
    have HB6 : Hid (Below w.heap.size w w6) := Lib.hid (HB5.out.grown hg6 HB5.out.size (fun k e => by injection e with e; omega))
    have HV : Hid (NewR w6 W.heap.size V (putAll T)) := Lib.hid (by
      have h := NewR.sub HN5.out hV2 hV1 (fun i hi => (hV4 i hi).1)
      exact ⟨h.1, h.2.1, fun j hj => (h.2.2 j hj).far (hV4 j (by omega)).2 hg6⟩)
    have HC6 : Hid (∀ j, j < (putAll T).length → w6.cell? ⟨g, j, none⟩ = some (V.getD j (.int .i64 0)) ∧ blkV (V.getD j (.int .i64 0)) ≠ g) := Lib.hid fun j hj => ⟨hV3 j (by omega), (hV4 j (by omega)).2⟩
    have HPL : Hid ((putAll T).length ≤ T.length) := Lib.hid (by rw [← hV1]; have := hV2.length_le; rw [List.length_map, ← HPP.out] at this; exact this)
    clear hg6 hV1 hV2 hV3 hV4
    go_wp2
    go_ret2
    have hle := HPL.out
    refine ⟨some ⟨g, 0, none⟩, cap, by rw [HCL.out, HN.out]; rfl, ?_, HB6.out⟩
    rw [HCL.out]
    refine ⟨by omega, fun e => (by cases e), V, ⟨HV.out.1, HV.out.2.1, fun j hj => ?_⟩, fun _ => ⟨g, rfl, by omega, HC6.out⟩⟩
    obtain ⟨b, p1, p2, p3, p4⟩ := HV.out.2.2 j hj
    exact ⟨b, by omega, p2, p3, p4⟩
  · have e1 : Hid (cornersL n xs = []) := by unfold cornersL; rw [if_neg h]; rfl
    have k44 := Lib.hid (f44_no A n len c xs w hs h)
    have hq : (asked n xs != 0) = true := by simpa using h
    clear h
    go_enter Try.func41, Try.ntmps41
    go_wp2_with fail
    refine k44.out.mono ?_
    rintro e w1 ⟨rfl, hb⟩
    obtain ⟨hz1, hz2, W, hW, hbx, hbW, hsW⟩ := one_box w1 (.pointer none) (.pointer none) 52
    have HB := Lib.hid (below_step hb hbW)
    clear hb hbx hbW hsW
    go_wp2
    go_ret2
    exact ⟨none, 0, by rw [e1.out]; rfl, by rw [e1.out]; exact crn_nil _ _, HB.out⟩
end Go.Proofs.Ytpehhbiodmgjeaa
