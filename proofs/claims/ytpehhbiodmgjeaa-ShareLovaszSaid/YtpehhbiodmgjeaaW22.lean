/- Walks: Sum (both). -/
import Derived.Test.YtpehhbiodmgjeaaW21
namespace Go.Proofs.Ytpehhbiodmgjeaa
open Go.RowKit

/-- The first k sums. -/
def addTo (a b : List Int) (k : Nat) : List Int := (List.range k).map fun j => a.getD j 0 + b.getD j 0
def addL (a b : List Int) : List Int := addTo a b a.length
theorem addTo_len (a b : List Int) (k : Nat) : (addTo a b k).length = k := by simp [addTo]
theorem addTo_succ (a b : List Int) (k : Nat) : addTo a b k ++ [a.getD k 0 + b.getD k 0] = addTo a b (k + 1) := by simp [addTo, List.range_succ]
def sumErr (n : Int) (a b : List Int) : Int := if costOk n a && costOk n b then (if (addL a b).any outC then 4 else 0) else 2
def sumR (n : Int) (a b : List Int) : List Int := if sumErr n a b = 0 then addL a b else []
theorem addL_bad {a b : List Int} {k : Nat} (hk : k < a.length) (h : outC (a.getD k 0 + b.getD k 0) = true) : (addL a b).any outC = true := by
  rw [List.any_eq_true]
  exact ⟨_, List.mem_map.2 ⟨k, List.mem_range.2 hk, rfl⟩, h⟩
theorem addL_good {a b : List Int} (h : ∀ k, k < a.length → outC (a.getD k 0 + b.getD k 0) = false) : (addL a b).any outC = false := by
  rw [List.any_eq_false]
  intro x hx
  obtain ⟨k, hk, rfl⟩ := List.mem_map.1 hx
  rw [h k (List.mem_range.1 hk)]
  simp

theorem cell_new2 (w : World) (o : Obj) (cs : Array Value) (t : TypeId) (i : Nat) : ((w.alloc o).alloc (.cells cs t)).cell? ⟨w.heap.size + 1, i, none⟩ = cs[i]? := by
  have e : (w.alloc o).heap.size = w.heap.size + 1 := by simp
  rw [← e]; exact cell_new _ cs t i

set_option maxRecDepth 100000 in
set_option maxHeartbeats 4000000 in
/-- share.Sum -/
theorem f26_any (A B : Option Addr) (n : Int) (len c m d : Nat) (xs ys : List Int) (w : World) (hs : Ints w A len xs) (ho : Ints w B m ys) :
    Calls Try.prog 26 #[.int .i64 n, .slice A len c, .slice B m d] w (SlErr w (sumR n xs ys) (sumErr n xs ys)) := by
  have hfail : Hid (∀ er w', er ≠ 0 → sumErr n xs ys = er → Below w.heap.size w w' → SlErr w (sumR n xs ys) (sumErr n xs ys) (.returned (.tuple #[.slice none 0 0, .int .i64 er])) w') := by
    intro er w' h1 h2 hb
    exact SlErr.nil h2 (by unfold sumR; rw [if_neg (by rw [h2]; exact h1)]) hb
  cases hok : costOk n xs
  · have he : Hid (sumErr n xs ys = 2) := by unfold sumErr; rw [hok]; rfl
    have k52 := Lib.hid (f52_no A n len c xs w hs hok)
    clear hok
    go_enter Try.func26, Try.ntmps26
    go_wp2_with fail
    refine k52.out.mono ?_
    rintro e w' ⟨rfl, rfl⟩
    go_wp2
    go_ret2
    exact hfail.out 2 _ (by decide) he.out (Below.refl _ _)
  obtain ⟨n', rfl, h1, h6, hln, hbd, h0⟩ := costOk_facts hok
  have k52 := Lib.hid (f52_yes A n' len c xs w hs hok)
  have HS := Lib.hid (hs.below (below_alloc w (.cells #[.int .i64 (n' : Int), .slice A len c] 60)))
  have hc' := Lib.hid (Costs.new w n' A len c)
  have ho' := Lib.hid (ho.below (below_alloc w (.cells #[.int .i64 (n' : Int), .slice A len c] 60)))
  cases hok2 : costOk n' ys
  · have he : Hid (sumErr n' xs ys = 2) := by unfold sumErr; rw [hok2, Bool.and_false]; rfl
    have k52b := Lib.hid (f52_no B n' m d ys _ ho'.out hok2)
    clear hok hok2 hbd hln h0
    go_enter Try.func26, Try.ntmps26
    go_wp2_with fail
    refine k52.out.mono ?_
    rintro e w' ⟨rfl, rfl⟩
    go_wp2_with fail
    refine k52b.out.mono ?_
    rintro e w' ⟨rfl, rfl⟩
    go_wp2
    go_ret2
    exact hfail.out 2 _ (by decide) he.out (below_alloc _ _)
  have he : Hid (sumErr n' xs ys = if (addL xs ys).any outC then 4 else 0) := by unfold sumErr; rw [hok, hok2]; rfl
  obtain ⟨n2, hn2, _, _, hln2, hbd2, _⟩ := costOk_facts hok2
  obtain rfl : n' = n2 := by omega
  have k52b := Lib.hid (f52_yes B n' m d ys _ ho'.out hok2)
  have HL : Hid (xs.length = len) := hs.len
  have hml : m = len := by rw [← hs.len, ← ho.len, hln, hln2]
  have hl64 : len ≤ 64 := by rw [← hs.len, hln]; exact pow6 n' h6
  have hp1 : 0 < len := by rw [← hs.len, hln]; exact Nat.pow_pos (by omega)
  subst hml
  have HB := Lib.hid hbd
  have HB2 := Lib.hid hbd2
  clear hok hok2 hbd hln h0 hbd2 hln2 hn2
  obtain ⟨bA, oA, rfl, _⟩ := hs.ad hp1
  obtain ⟨bB, oB, rfl, _⟩ := ho.ad hp1
  clear hs ho
  go_enter Try.func26, Try.ntmps26
  go_wp2_with fail
  refine k52.out.mono ?_
  rintro e w' ⟨rfl, rfl⟩
  go_wp2_with fail
  refine k52b.out.mono ?_
  rintro e w' ⟨rfl, rfl⟩
  obtain ⟨w2, hw2⟩ : ∃ w2, w2 = (w.alloc (.cells #[.int .i64 (n' : Int), .slice (some ⟨bA, oA, none⟩) m c] 60)).alloc (.cells #[.int .i64 (n' : Int), .slice (some ⟨bB, oB, none⟩) m d] 60) := ⟨_, rfl⟩
  have hsz : (w.alloc (.cells #[.int .i64 (n' : Int), .slice (some ⟨bA, oA, none⟩) m c] 60)).heap.size = w.heap.size + 1 := by simp
  have q1 : Costs w2 w.heap.size n' (some ⟨bA, oA, none⟩) m c := by rw [hw2]; exact hc'.out.below (below_alloc _ _)
  have q2 : Costs w2 (w.heap.size + 1) n' (some ⟨bB, oB, none⟩) m d := by rw [hw2, ← hsz]; exact Costs.new _ n' _ m d
  have q3 : Ints w2 (some ⟨bA, oA, none⟩) m xs := by rw [hw2]; exact HS.out.below (below_alloc _ _)
  have q4 : Ints w2 (some ⟨bB, oB, none⟩) m ys := by rw [hw2]; exact ho'.out.below (below_alloc _ _)
  have q5 : Below w.heap.size w w2 := by rw [hw2]; exact below_alloc2 _ _ _
  rw [hsz]
  rw [← hw2]
  have Q1 := Lib.hid q1
  have Q2 := Lib.hid q2
  have Q3 := Lib.hid q3
  have Q4 := Lib.hid q4
  have Q5 := Lib.hid q5
  have d1 := q1.2
  clear hw2 q1 q2 q3 q4 q5 hsz hc' ho' HS k52 k52b
  go_wp2_with fail
  go_loopw [11, 12, 13, 14, 38] (fun v _ _ _ i wr => ∃ k : Nat, k ≤ m ∧ i = .int .i64 k ∧ (∀ j, j < k → outC (xs.getD j 0 + ys.getD j 0) = false) ∧ Row wr w2.heap.size v (addTo xs ys k) ∧ Below w2.heap.size w2 wr) (fun _ _ _ _ i _ => m - (intOf i).toNat)
  case atStart => exact ⟨0, by omega, rfl, fun j hj => absurd hj (by omega), Row.nil _ _, Below.refl _ _⟩
  case round => as_aux_lemma =>
    obtain ⟨k, hk, rfl, hbef, hrow, hbel⟩ := hrel
    have HBE := Lib.hid hbef
    have HR := Lib.hid hrow
    have HBL := Lib.hid hbel
    have hsz := hbel.size
    by_cases hlt : k < m
    · have e2 := (Q2.out.below hbel).2
      obtain ⟨_, _, e, h3⟩ := (Q3.out.below hbel).ad hp1
      cases e
      have e3 := h3 k hlt
      obtain ⟨_, _, e, h4⟩ := (Q4.out.below hbel).ad hp1
      cases e
      have e4 := h4 k hlt
      have b1 := HB.out k
      have b2 := HB2.out k
      have hst := Lib.hid (addTo_succ xs ys k)
      have hbad : Hid (outC (xs.getD k 0 + ys.getD k 0) = true → (addL xs ys).any outC = true) := fun h => addL_bad (by rw [HL.out]; exact hlt) h
      have hgood : Hid (∀ q, outC (xs.getD k 0 + ys.getD k 0) = q → outC (xs.getD k 0 + ys.getD k 0) = q) := fun q h => h
      generalize hx : xs.getD k 0 = x at *
      generalize hy : ys.getD k 0 = y at *
      have HX := Lib.hid hx
      have HY := Lib.hid hy
      have k56 := Lib.hid (fun W => f56_any (x + y) wr.heap.size W)
      clear hx hy hbef hrow h3 h4 hbel
      cases ho : outC (x + y)
      · rw [ho] at k56
        have HO := Lib.hid ho
        clear ho
        go_wp2_with fail
        refine (k56.out _ (cell_new wr _ _ 0) (cell_new wr _ _ 1)).mono ?_
        rintro e w' ⟨rfl, rfl⟩
        go_wp2_with (at_builtin; refine wpList_push rfl (.tmp 56) (.tmp 58) rfl w2.heap.size _ (addTo xs ys k) rfl ((HR.out.alloc _).alloc _) (wr.heap.size + 1) 1 (x + y) rfl ?hc ?hl ?hb ?hr)
        case hc => exact cell_new2 wr _ _ 3 0
        case hl => rw [addTo_len]; omega
        case hb => simp; omega
        case hr =>
          intro v' w' hr' hg'
          rw [hst.out] at hr'
          have HR2 := Lib.hid hr'
          have HB3 : Hid (Below w2.heap.size w2 w') := below_grown ((HBL.out.alloc hsz _).alloc (by simp; omega) _) hg' (by simp; omega) ((HR.out.alloc _).alloc _) (Nat.le_refl _)
          clear hr' hg'
          go_wp2_with fail
          go_roundw
          case rel => exact ⟨k + 1, by omega, by go_num, fun j hj => by
            rcases Nat.lt_or_ge j k with h | h
            · exact HBE.out j h
            · obtain rfl : j = k := by omega
              rw [HX.out, HY.out]; exact HO.out, HR2.out, HB3.out⟩
          case measure => simp [intOf]; omega
      · rw [ho] at k56
        have he4 : Hid (sumErr n' xs ys = 4) := by rw [he.out, hbad.out ho]; rfl
        clear ho
        go_wp2_with fail
        refine (k56.out _ (cell_new wr _ _ 0) (cell_new wr _ _ 1)).mono ?_
        rintro e w' ⟨rfl, rfl⟩
        go_wp2
        go_ret2
        exact hfail.out 4 _ (by decide) he4.out (below_step Q5.out (HBL.out.alloc hsz _))
    · obtain rfl : k = m := by omega
      have hgo := addL_good (a := xs) (b := ys) (fun j hj => HBE.out j (by rw [HL.out] at hj; exact hj))
      have he0 : Hid (sumErr n' xs ys = 0) := by rw [he.out, hgo]; rfl
      have heR : Hid (sumR n' xs ys = addTo xs ys k) := by unfold sumR; rw [if_pos he0.out]; unfold addL; rw [HL.out]; rfl
      obtain ⟨Ao, co, rfl, hio⟩ := HR.out.form
      have hio := hio 64 (by rw [addTo_len]; exact hl64) (by omega)
      rw [addTo_len] at hio
      rw [addTo_len]
      have HI := Lib.hid hio
      clear hio hgo hrow hbel
      go_wp2
      go_ret2
      exact ⟨_, _, _, by rw [he0.out]; rfl, by rw [heR.out]; exact HI.out, below_step Q5.out HBL.out⟩

set_option maxRecDepth 100000 in
set_option maxHeartbeats 4000000 in
/-- dibberref08.Sum -/
theorem f27_any (A B : Option Addr) (n : Int) (len c m d : Nat) (xs ys : List Int) (w : World) (hs : Ints w A len xs) (ho : Ints w B m ys) :
    Calls Try.prog 27 #[.int .i64 n, .slice A len c, .slice B m d] w (SlErr w (sumR n xs ys) (sumErr n xs ys)) := by
  have hfail : Hid (∀ er w', er ≠ 0 → sumErr n xs ys = er → Below w.heap.size w w' → SlErr w (sumR n xs ys) (sumErr n xs ys) (.returned (.tuple #[.slice none 0 0, .int .i64 er])) w') := by
    intro er w' h1 h2 hb
    exact SlErr.nil h2 (by unfold sumR; rw [if_neg (by rw [h2]; exact h1)]) hb
  have k54 : Hid (Calls Try.prog 54 #[.int .i64 n, .slice A len c] w fun e w' => e = .returned (.bool (costOk n xs)) ∧ w = w') := f54_any A n len c xs w hs
  have k54b : Hid (Calls Try.prog 54 #[.int .i64 n, .slice B m d] w fun e w' => e = .returned (.bool (costOk n ys)) ∧ w = w') := f54_any B n m d ys w ho
  cases hok : costOk n xs
  · have he : Hid (sumErr n xs ys = 2) := by unfold sumErr; rw [hok]; rfl
    rw [hok] at k54
    clear hok
    go_enter Try.func27, Try.ntmps27
    go_wp2_with fail
    refine k54.out.mono ?_
    rintro e w' ⟨rfl, rfl⟩
    go_wp2
    go_ret2
    exact hfail.out 2 _ (by decide) he.out (Below.refl _ _)
  cases hok2 : costOk n ys
  · have he : Hid (sumErr n xs ys = 2) := by unfold sumErr; rw [hok2, Bool.and_false]; rfl
    rw [hok] at k54
    rw [hok2] at k54b
    clear hok hok2
    go_enter Try.func27, Try.ntmps27
    go_wp2_with fail
    refine k54.out.mono ?_
    rintro e w' ⟨rfl, rfl⟩
    go_wp2_with fail
    refine k54b.out.mono ?_
    rintro e w' ⟨rfl, rfl⟩
    go_wp2
    go_ret2
    exact hfail.out 2 _ (by decide) he.out (Below.refl _ _)
  have he : Hid (sumErr n xs ys = if (addL xs ys).any outC then 4 else 0) := by unfold sumErr; rw [hok, hok2]; rfl
  rw [hok] at k54
  rw [hok2] at k54b
  obtain ⟨n', rfl, h1, h6, hln, hbd, h0⟩ := costOk_facts hok
  obtain ⟨n2, hn2, _, _, hln2, hbd2, _⟩ := costOk_facts hok2
  obtain rfl : n' = n2 := by omega
  have HL : Hid (xs.length = len) := hs.len
  have hml : m = len := by rw [← hs.len, ← ho.len, hln, hln2]
  have hl64 : len ≤ 64 := by rw [← hs.len, hln]; exact pow6 n' h6
  have hp1 : 0 < len := by rw [← hs.len, hln]; exact Nat.pow_pos (by omega)
  subst hml
  have HB := Lib.hid hbd
  have HB2 := Lib.hid hbd2
  clear hok hok2 hbd hln h0 hbd2 hln2 hn2
  obtain ⟨bA, oA, rfl, _⟩ := hs.ad hp1
  obtain ⟨bB, oB, rfl, _⟩ := ho.ad hp1
  have Q3 := Lib.hid hs
  have Q4 := Lib.hid ho
  clear hs ho
  go_enter Try.func27, Try.ntmps27
  go_wp2_with fail
  refine k54.out.mono ?_
  rintro e w' ⟨rfl, rfl⟩
  go_wp2_with fail
  refine k54b.out.mono ?_
  rintro e w' ⟨rfl, rfl⟩
  go_wp2_with fail
  go_loopw [8, 9, 10] (fun v i _ wr => ∃ k : Nat, k ≤ m ∧ i = .int .i64 k ∧ (∀ j, j < k → outC (xs.getD j 0 + ys.getD j 0) = false) ∧ Row wr w.heap.size v (addTo xs ys k) ∧ Below w.heap.size w wr) (fun _ i _ _ => m - (intOf i).toNat)
  case atStart => exact ⟨0, by omega, rfl, fun j hj => absurd hj (by omega), Row.nil _ _, Below.refl _ _⟩
  case round => as_aux_lemma =>
    obtain ⟨k, hk, rfl, hbef, hrow, hbel⟩ := hrel
    have HBE := Lib.hid hbef
    have HR := Lib.hid hrow
    have HBL := Lib.hid hbel
    have hsz := hbel.size
    by_cases hlt : k < m
    · obtain ⟨_, _, e, h3⟩ := (Q3.out.below hbel).ad hp1
      cases e
      have e3 := h3 k hlt
      obtain ⟨_, _, e, h4⟩ := (Q4.out.below hbel).ad hp1
      cases e
      have e4 := h4 k hlt
      have b1 := HB.out k
      have b2 := HB2.out k
      have hst := Lib.hid (addTo_succ xs ys k)
      have hbad : Hid (outC (xs.getD k 0 + ys.getD k 0) = true → (addL xs ys).any outC = true) := fun h => addL_bad (by rw [HL.out]; exact hlt) h
      generalize hx : xs.getD k 0 = x at *
      generalize hy : ys.getD k 0 = y at *
      have HX := Lib.hid hx
      have HY := Lib.hid hy
      clear hx hy hbef hrow h3 h4 hbel
      by_cases t1 : x + y < -1000000
      · have he4 : Hid (sumErr n' xs ys = 4) := by rw [he.out, hbad.out (by simp [outC]; omega)]; rfl
        go_wp2_with fail
        go_quiet (fail)
        go_wp2
        go_ret2
        exact hfail.out 4 _ (by decide) he4.out (below_drewN HBL.out _)
      by_cases t2 : 1000000 < x + y
      · have he4 : Hid (sumErr n' xs ys = 4) := by rw [he.out, hbad.out (by simp [outC]; omega)]; rfl
        go_wp2_with fail
        go_quiet (fail)
        go_wp2
        go_ret2
        exact hfail.out 4 _ (by decide) he4.out (below_drewN HBL.out _)
      have HO : Hid (outC (x + y) = false) := by simp [Hid, outC]; omega
      go_wp2_with fail
      go_quiet (fail)
      rename_i nq
      have HR0 := Lib.hid (HR.out.drewN nq)
      have HBL0 := Lib.hid (below_drewN HBL.out nq)
      go_wp2_with (at_builtin; refine wpList_push rfl (.tmp 42) (.tmp 44) rfl w.heap.size _ (addTo xs ys k) rfl (HR0.out.alloc _) wr.heap.size 1 (x + y) rfl ?hc ?hl ?hb ?hr)
      case hc => exact cell_new (wr.drewN nq) _ 3 0
      case hl => rw [addTo_len]; omega
      case hb => simp; omega
      case hr =>
        intro v' w' hr' hg'
        rw [hst.out] at hr'
        have HR2 := Lib.hid hr'
        have HB3 : Hid (Below w.heap.size w w') := below_grown (HBL0.out.alloc (by simp; omega) _) hg' (by simp; omega) (HR0.out.alloc _) (Nat.le_refl _)
        clear hr' hg'
        go_wp2_with fail
        go_roundw
        case rel => exact ⟨k + 1, by omega, by go_num, fun j hj => by
          rcases Nat.lt_or_ge j k with h | h
          · exact HBE.out j h
          · obtain rfl : j = k := by omega
            rw [HX.out, HY.out]; exact HO.out, HR2.out, HB3.out⟩
        case measure => simp [intOf]; omega
    · obtain rfl : k = m := by omega
      have hgo := addL_good (a := xs) (b := ys) (fun j hj => HBE.out j (by rw [HL.out] at hj; exact hj))
      have he0 : Hid (sumErr n' xs ys = 0) := by rw [he.out, hgo]; rfl
      have heR : Hid (sumR n' xs ys = addTo xs ys k) := by unfold sumR; rw [if_pos he0.out]; unfold addL; rw [HL.out]; rfl
      obtain ⟨Ao, co, rfl, hio⟩ := HR.out.form
      have hio := hio 64 (by rw [addTo_len]; exact hl64) (by omega)
      rw [addTo_len] at hio
      rw [addTo_len]
      have HI := Lib.hid hio
      clear hio hgo hrow hbel
      go_wp2
      go_ret2
      exact ⟨_, _, _, by rw [he0.out]; rfl, by rw [heR.out]; exact HI.out, HBL.out⟩
end Go.Proofs.Ytpehhbiodmgjeaa
