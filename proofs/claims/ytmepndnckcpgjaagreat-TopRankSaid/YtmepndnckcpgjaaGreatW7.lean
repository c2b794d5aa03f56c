/- Walks: greedy (both). -/
import Derived.Test.YtmepndnckcpgjaaGreatW6
import Derived.BigRegion
namespace Go.Proofs.YtmepndnckcpgjaaGreat
open Go.RowKit

theorem Costs.below {w w' : World} {p : Nat} {n : Int} {A : Option Addr} {len c : Nat} (h : Costs w p n A len c) (hb : Below w.heap.size w w') : Costs w' p n A len c :=
  ⟨(hb.cell (lt_of_cell h.1)).trans h.1, (hb.cell (lt_of_cell h.2)).trans h.2⟩

theorem add_bit : ∀ a, a < 64 → ∀ i, i < 6 → a.testBit i = false → a + 2 ^ i = a ||| 2 ^ i := by decide
theorem gTo_bit (n : Nat) (xs : List Int) (ord : List Nat) (k i : Nat) (h : i ∉ ord.take k) : (gTo n xs ord k).2.testBit i = false := by
  unfold gTo
  generalize ord.take k = l at *
  suffices ∀ s : List Int × Nat, s.2.testBit i = false → (l.foldl (gstep xs) s).2.testBit i = false from this _ (by simp)
  induction l with
  | nil => intro s hs; exact hs
  | cons a l ih =>
    intro s hs
    rw [List.foldl_cons]
    refine ih (fun hm => h (List.mem_cons_of_mem _ hm)) _ ?_
    show (s.2 ||| 2 ^ a).testBit i = false
    rw [Nat.testBit_or, hs, Nat.testBit_two_pow]
    have : a ≠ i := fun e => h (by rw [e]; exact List.mem_cons_self)
    simp [this]
theorem gTo_add (n : Nat) (xs : List Int) (ord : List Nat) (k : Nat) (hnd : ord.Nodup) (hk : k < ord.length) (h64 : (gTo n xs ord k).2 < 64) (h6 : ord.getD k 0 < 6) : (gTo n xs ord k).2 + 2 ^ (ord.getD k 0) = (gTo n xs ord k).2 ||| 2 ^ (ord.getD k 0) := by
  have h1 : ord.getD k 0 ∉ ord.take k := by
    simp only [List.getD_eq_getElem?_getD, List.getElem?_eq_getElem hk, Option.getD_some]
    intro hm
    obtain ⟨j, hj, he⟩ := List.getElem_of_mem hm
    rw [List.length_take] at hj
    rw [List.getElem_take] at he
    exact List.pairwise_iff_getElem.1 hnd j k (by omega) hk (by omega) he
  exact add_bit _ h64 _ h6 (gTo_bit n xs ord k _ h1)
set_option maxHeartbeats 2000000 in
/-- (*costs).greedy -/
theorem f49_any (p : Nat) (A B : Option Addr) (n len c m d : Nat) (xs os : List Int) (w : World) (hp : Costs w p n A len c) (hs : Ints w A len xs) (ho : Ints w B m os)
    (hn : n ≤ 6) (hln : len = 2 ^ n) (hbd : ∀ j, -1000000000 ≤ xs.getD j 0 ∧ xs.getD j 0 ≤ 1000000000) (hr : ∀ j, j < m → 0 ≤ os.getD j 0 ∧ os.getD j 0 < n) :
    Calls Tryz.prog 23 #[.pointer (some ⟨p, 0, none⟩), .slice B m d] w fun e w' =>
      e = .returned (.slice (some ⟨w.heap.size, 0, none⟩) n n) ∧ Own w' w.heap.size (greedyL n xs (os.map Int.toNat)) ∧ Below w.heap.size w w' := by
  have hl : len ≤ 64 := by rw [hln]; exact pow6 n hn
  have hpos : 0 < len := by rw [hln]; exact Nat.pow_pos (by omega)
  have hsm := ho.small
  obtain ⟨ord, hord⟩ : ∃ ord, ord = os.map Int.toNat := ⟨_, rfl⟩
  have holen : ord.length = m := by rw [hord, List.length_map, ho.len]
  have hget : ∀ j, j < m → os.getD j 0 = ((ord.getD j 0 : Nat) : Int) ∧ ord.getD j 0 < n := by
    intro j hj
    have h1 := hr j hj
    have h2 : j < os.length := by rw [ho.len]; exact hj
    have h3 : ord.getD j 0 = (os.getD j 0).toNat := by rw [hord]; simp [h2]
    rw [h3]
    omega
  rw [← hord]
  have HG := Lib.hid hget
  have HL := Lib.hid hln
  have HO := Lib.hid holen
  have HI := Lib.hid hs
  have HJ := Lib.hid ho
  have HP := Lib.hid hp
  have HF : Hid (greedyL n xs ord = (gTo n xs ord m).1) := by unfold greedyL; rw [holen]; rfl
  clear hord hget hr hln holen
  obtain ⟨hp0, hp1⟩ := hp
  obtain ⟨Z, hZ⟩ : ∃ Z, Z = ((List.replicate n (0 : Int)).map (Value.int .i64)).toArray := ⟨_, rfl⟩
  have hmk := make_ints n (by omega)
  rw [← hZ] at hmk
  have HZ := Lib.hid hZ
  clear hZ
  go_enter Tryz.func23, Tryz.ntmps23
  go_wp2
  go_loopw [6, 8, 16] (fun gr _ i wr => ∃ k : Nat, k ≤ m ∧ i = .int .i64 k ∧ gr = .int .i64 ((gTo n xs ord k).2 : Int) ∧ Own wr w.heap.size (gTo n xs ord k).1 ∧ Below w.heap.size w wr) (fun _ _ i _ => m - (intOf i).toNat)
  case atStart => exact ⟨0, by omega, rfl, rfl, by rw [HZ.out]; exact Own.made w n, below_alloc _ _⟩
  case round =>
    obtain ⟨k, hk, rfl, rfl, hown, hbel⟩ := hrel
    by_cases hlt : k < m
    · obtain ⟨hv, hi⟩ := HG.out k hlt
      have h2 : (gTo n xs ord k).2 < 2 ^ n := gTo_lt n xs ord k (fun j hj => by rw [HO.out] at hj; exact (HG.out j hj).2) (by rw [HO.out]; omega)
      have hst : Hid (gTo n xs ord (k + 1) = gstep xs (gTo n xs ord k) (ord.getD k 0)) := gTo_succ n xs ord k (by rw [HO.out]; exact hlt)
      have hlen2 : (gTo n xs ord k).1.length = n := gTo_len _ _ _ _
      unfold gstep at hst
      generalize gTo n xs ord k = S at *
      obtain ⟨os', gr⟩ := S
      simp only at hown h2 hlen2 hst
      generalize ord.getD k 0 = i at *
      obtain ⟨N, hN, hshl⟩ := shl_one i (by omega)
      have hor : gr ||| N < len := by rw [HL.out, hN]; exact or_lt h2 (Nat.pow_lt_pow_right (by omega) hi)
      have hgr : gr < len := by rw [HL.out]; exact h2
      have hN2 : N ≤ 64 := by rw [hN]; exact pow6 i (by omega)
      rw [← hN] at hst
      clear hN h2
      have e1 := bits_or_nat gr N (by omega) (by omega)
      generalize gr ||| N = o at *
      obtain ⟨b, off, rfl, hc⟩ := HI.out.ad hpos
      obtain ⟨bo, off2, rfl, hc2⟩ := HJ.out.ad (by omega)
      have c1 := (hbel.cell (lt_of_cell (hc o hor))).trans (hc o hor)
      have c2 := (hbel.cell (lt_of_cell (hc gr hgr))).trans (hc gr hgr)
      have c3 := (hbel.cell (lt_of_cell (hc2 k hlt))).trans (hc2 k hlt)
      rw [hv] at c3
      have c4 := (hbel.cell (lt_of_cell hp1)).trans hp1
      have c5 := hown.cell i (by omega)
      have c6 := hown.frozen i
      have b1 := hbd o
      have b2 := hbd gr
      simp only [List.getD_eq_getElem?_getD] at b1 b2 c1 c2
      clear hc hc2 hv hlen2
      have HO2 := Lib.hid hown
      have HB2 := Lib.hid hbel
      clear hown hbel
      go_wp2
      go_region
      go_wp2
      go_roundw
      case rel => exact ⟨k + 1, by omega, by go_num, by rw [hst.out], by rw [hst.out]; exact (HO2.out.set_ i _).drew, (HB2.out.setCell (Nat.le_refl _) _).drew⟩
      case measure => simp [intOf]; omega
    · obtain rfl : k = m := by omega
      go_wp2
      go_ret
      exact ⟨rfl, by rw [HF.out]; exact hown, hbel⟩

end Go.Proofs.YtmepndnckcpgjaaGreat
