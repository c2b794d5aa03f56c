/- Walks: record, slices.Max, faults.learn. -/
import Derived.Test.YtfaenbaaadjbbaaW19
import Derived.Test.YtfaenbaaadjbbaaPlain10
namespace Go.Proofs.Ytfaenbaaadjbbaa
open Go.RowKit

theorem any_rows (n : Int) (l : List (List Int)) : (l.any fun l => !bitsB n l) = !l.all (bitsB n) := by
  induction l with
  | nil => rfl
  | cons a l ih => simp only [List.any_cons, List.all_cons, Bool.not_and, ih]
set_option maxRecDepth 100000 in
set_option maxHeartbeats 2000000 in
/-- luck.record -/
theorem f60_any (A B : Option Addr) (n : Int) (k c m d : Nat) (said : List (List Int)) (came : List Int) (w : World) (hs : IntsS w A k said) (ho : Ints w B m came) :
    Calls Try.prog 60 #[.int .i64 n, .slice A k c, .slice B m d] w fun e w' => e = .returned (.int .i64 (recErr n said came)) ∧ Below w.heap.size w w' := by
  have hB := Lib.hid (below_alloc w (.cells #[.int .i64 n] 3))
  have hk := hs.small
  have hm := ho.small
  by_cases h1 : n < 1
  · have hf : Hid (recErr n said came = 2) := by unfold recErr; rw [if_neg (by omega)]; rfl
    clear hs ho
    go_enter Try.func60, Try.ntmps60
    go_wp2
    go_ret
    exact ⟨ret_int hf.out.symm, hB.out⟩
  by_cases h2 : 20 < n
  · have hf : Hid (recErr n said came = 2) := by unfold recErr; rw [if_neg (by omega)]; rfl
    clear hs ho
    go_enter Try.func60, Try.ntmps60
    go_wp2
    go_ret
    exact ⟨ret_int hf.out.symm, hB.out⟩
  by_cases h3 : 200 < k
  · have hf : Hid (recErr n said came = 3) := by unfold recErr; rw [if_pos (by omega), if_neg (by rw [hs.len]; omega)]; rfl
    clear hs ho
    go_enter Try.func60, Try.ntmps60
    go_wp2
    go_ret
    exact ⟨ret_int hf.out.symm, hB.out⟩
  have hf0 : recErr n said came = if (said.all (bitsB n) && bitsB (k : Int) came) = true then 0 else 2 := by unfold recErr; rw [if_pos (by omega), if_pos (by rw [hs.len]; omega), hs.len]
  have k49 : Hid (Calls Try.prog 49 #[.slice A k c, .func (.func 82) #[] #[.pointer (some ⟨w.heap.size, 0, none⟩)]] (w.alloc (.cells #[.int .i64 n] 3)) fun e w' => e = .returned (.bool (said.any fun l => !bitsB n l)) ∧ w.alloc (.cells #[.int .i64 n] 3) = w') :=
    f49_any A k c said 82 _ (fun l => !bitsB n l) _ (hs.below hB.out) enter82 (fun l C e hi => f82_any C e l w.heap.size n _ hi (cell_new _ _ _ _))
  rw [any_rows] at k49
  have k51 := Lib.hid (f51_any B m d came (k : Int) _ (ho.below hB.out))
  clear hs ho
  cases hr : said.all (bitsB n)
  · rw [hr] at k49 hf0
    have HF := Lib.hid hf0
    clear hr hf0
    go_enter Try.func60, Try.ntmps60
    go_wp2_with fail
    refine k49.out.mono ?_
    rintro e w' ⟨rfl, rfl⟩
    go_wp2
    go_ret
    exact ⟨ret_int (by rw [HF.out]; rfl), hB.out⟩
  · cases hc : bitsB (k : Int) came
    all_goals
      rw [hr] at k49 hf0
      rw [hc] at k51 hf0
      have HF := Lib.hid hf0
      clear hr hf0 hc
      go_enter Try.func60, Try.ntmps60
      go_wp2_with fail
      refine k49.out.mono ?_
      rintro e w' ⟨rfl, rfl⟩
      go_wp2_with fail
      refine k51.out.mono ?_
      rintro e w' ⟨rfl, rfl⟩
      go_wp2
      go_ret
      exact ⟨ret_int (by rw [HF.out]; rfl), hB.out⟩
set_option maxHeartbeats 1000000 in
/-- slices.Max at ints -/
theorem f104_any (A : Option Addr) (n c : Nat) (xs : List Int) (w : World) (hs : Ints w A n xs) (hn : 0 < n) :
    Calls Try.prog 104 #[.slice A n c] w fun e w' => e = .returned (.int .i64 (maxL xs)) ∧ w = w' := by
  have hb := hs.small
  have hf : Hid (maxL xs = maxTo xs n) := by unfold maxL; rw [hs.len]; rfl
  have hf1 : Hid (maxTo xs 1 = xs.getD 0 0) := by show max (xs.getD 0 0) (xs.getD 0 0) = _; omega
  obtain ⟨b, off, rfl, hc⟩ := hs.ad hn
  have HC := Lib.hid hc
  have hc0 := hc 0 hn
  simp only [Nat.add_zero] at hc0
  have hq : decide ((n : Int) < 1) = false := by simp; omega
  clear hs hc
  go_enter Try.func104, Try.ntmps104
  go_wp2
  go_loop [3, 4] (fun t i => ∃ k : Nat, 1 ≤ k ∧ k ≤ n ∧ i = .int .i64 (k : Int) ∧ t = .int .i64 (maxTo xs k)) (fun _ i => n - (intOf i).toNat)
  case atStart => exact ⟨1, by omega, by omega, rfl, by rw [hf1.out]; simp⟩
  case round =>
    obtain ⟨k, hk1, hk, rfl, rfl⟩ := hrel
    by_cases hlt : k < n
    · have hck := HC.out k hlt
      have hst : Hid (maxTo xs (k + 1) = max (maxTo xs k) (xs.getD k 0)) := rfl
      generalize xs.getD k 0 = x at *
      generalize maxTo xs k = y at *
      rcases Int.lt_or_le y x with h | h
      · have hm : Hid (maxTo xs (k + 1) = x) := by rw [hst.out]; unfold Hid; omega
        clear hst
        go_wp2
        go_round
        case rel => exact ⟨k + 1, by omega, by omega, by go_num, by rw [hm.out]⟩
        case measure => simp [intOf]; omega
      · have hm : Hid (maxTo xs (k + 1) = y) := by rw [hst.out]; unfold Hid; omega
        clear hst
        go_wp2
        go_round
        case rel => exact ⟨k + 1, by omega, by omega, by go_num, by rw [hm.out]⟩
        case measure => simp [intOf]; omega
    · obtain rfl : k = n := by omega
      go_wp2
      go_ret
      exact ⟨ret_int hf.out.symm, rfl⟩
set_option maxRecDepth 100000 in
set_option maxHeartbeats 1000000 in
/-- (*luck.faults).learn -/
theorem f64_any (p g n c : Nat) (A : Option Addr) (ss xs : List Int) (x : Int) (w : World) (hs : Ints w A n ss) (hp : w.cell? ⟨p, 0, none⟩ = some (.slice (some ⟨g, 0, none⟩) n n)) (ho : Own w g xs) (hl : xs.length = n) (hpg : p ≠ g)
    (hAg : ∀ b off, A = some ⟨b, off, none⟩ → b ≠ g) (hx : ∀ j, 0 ≤ xs.getD j 0 ∧ xs.getD j 0 ≤ 100000) :
    Calls Try.prog 64 #[.pointer (some ⟨p, 0, none⟩), .slice A n c, .int .i64 x] w fun e w' => e = .returned (.tuple #[]) ∧ ∃ ys, Own w' g ys ∧ ys.length = n ∧ (∀ j, j < n → ys.getD j 0 = xs.getD j 0 + if ss.getD j 0 = x then 0 else 1) ∧ w.grownBy w' (some g) := by
  have hb := hs.small
  have HS := Lib.hid hs
  have HO := Lib.hid ho
  have HL := Lib.hid hl
  have HP := Lib.hid hp
  have HX := Lib.hid hx
  have HAG := Lib.hid hAg
  have HPG := Lib.hid hpg
  clear hs ho hl hp hx hAg hpg
  go_enter Try.func64, Try.ntmps64
  go_wp2
  go_loopw [6, 7, 10] (fun _ _ i wr => ∃ (k : Nat) (L : List Int), k ≤ n ∧ i = .int .i64 (k : Int) ∧ Own wr g L ∧ Hid (L.length = n ∧ (∀ j, j < n → L.getD j 0 = upTo xs ss x k j)) ∧ w.grownBy wr (some g)) (fun _ _ i _ => n - (intOf i).toNat)
  case atStart => exact ⟨0, xs, by omega, rfl, HO.out, ⟨HL.out, fun j _ => (upTo_zero _ _ _ _).symm⟩, World.grownBy.refl _ _⟩
  case round => as_aux_lemma =>
    obtain ⟨k, L, hk, rfl, hown, hL, hg⟩ := hrel
    have HW := Lib.hid hown
    have HG := Lib.hid hg
    by_cases hlt : k < n
    · obtain ⟨b, off, rfl, hc0⟩ := HS.out.at_ hlt
      have hc := hg.cell hc0 (fun e => HAG.out b off rfl (by injection e))
      have hp := hg.cell HP.out (fun e => HPG.out (by injection e))
      have hco := hown.cell k (by rw [hL.out.1]; exact hlt)
      have hfz := hown.frozen k
      have hLk : L.getD k 0 = xs.getD k 0 := by rw [hL.out.2 k hlt, upTo_at]
      have hxk := HX.out k
      rw [hLk] at hco
      generalize hs : ss.getD k 0 = s at *
      have HSS := Lib.hid hs
      have hnx : Hid (upTo xs ss x (k + 1) k = xs.getD k 0 + if ss.getD k 0 = x then 0 else 1) := upTo_all _ _ _ _ _ (by omega)
      rw [hs] at hnx
      have HLK := Lib.hid hLk
      generalize xs.getD k 0 = y at *
      clear hs hown hg hc0 hLk
      by_cases he : s = x
      · have hq : (s != x) = false := by simpa using he
        have HE := Lib.hid he
        clear he
        go_wp2
        go_roundw
        case rel => exact ⟨k + 1, L, by omega, by go_num, HW.out, ⟨hL.out.1, fun j hj => by
          by_cases hjk : j = k
          · subst hjk; rw [hnx.out, if_pos HE.out, HLK.out]; omega
          · rw [upTo_other _ _ _ _ _ hjk]; exact hL.out.2 j hj⟩, HG.out⟩
        case measure => simp [intOf]; omega
      · have hq : (s != x) = true := by simpa using he
        have HE := Lib.hid he
        have hy2 : y + 1 ≤ 100001 := by omega
        clear he
        go_wp2
        go_roundw
        case rel => exact ⟨k + 1, L.set k (y + 1), by omega, by go_num, HW.out.set_ k _, ⟨by rw [List.length_set]; exact hL.out.1, fun j hj => by
          rw [getI_set _ _ _ _ (by rw [hL.out.1]; exact hlt)]
          by_cases hjk : j = k
          · subst hjk; rw [hnx.out, if_neg HE.out, if_pos rfl]
          · rw [upTo_other _ _ _ _ _ hjk, if_neg hjk]; exact hL.out.2 j hj⟩, grown_trans HG.out (grown_set _ _ _ _)⟩
        case measure => simp [intOf]; omega
    · obtain rfl : k = n := by omega
      clear hown hg
      go_wp2
      go_end0
      exact ⟨rfl, L, HW.out, hL.out.1, fun j hj => by rw [hL.out.2 j hj, upTo_all _ _ _ _ _ hj], HG.out⟩
end Go.Proofs.Ytfaenbaaadjbbaa
