/- Walks: Count. -/
import Derived.Test.YtiodednhadnekaaDoorW39
namespace Go.Proofs.YtiodednhadnekaaDoor
open Go.RowKit Go.Deep
attribute [local go_sem ↓] Go.wp_at_zero Go.wp_at_succ
attribute [local go_sem] run_store_func

theorem sumN_list (f : Nat → Nat) : ∀ n, sumN f n = ((List.range n).map f).sum
  | 0 => rfl
  | n + 1 => by rw [sumN, sumN_list f n, List.range_succ, List.map_append, List.sum_append]; simp
theorem sum_filter {f : Nat → Nat} {p : Nat → Bool} : ∀ {l : List Nat}, (∀ x ∈ l, p x = false → f x = 0) → ((l.filter p).map f).sum = (l.map f).sum
  | [], _ => rfl
  | a :: l, h => by
    have ih := sum_filter (f := f) (p := p) (l := l) fun x hx => h x (List.mem_cons_of_mem _ hx)
    rw [List.filter_cons]
    cases hp : p a
    · rw [if_neg (by simp), ih, List.map_cons, List.sum_cons, h a (List.mem_cons_self ..) hp, Nat.zero_add]
    · rw [if_pos rfl, List.map_cons, List.sum_cons, List.map_cons, List.sum_cons, ih]
/-- How many ways there are to go on at an empty place. -/
theorem cnt_crops {n : Nat} {b : List (List Int)} (h : sqShape n b) {r c : Nat} (hr : r < n) (hc : c < n) (h0 : gAt b r c < 0) : cnt n b = ((crops n b r c).map fun x => cnt n (gset b r c (x : Nat))).sum := by
  rw [cnt_branch h hr hc h0, sumN_list]
  unfold crops
  rw [sum_filter]
  intro x _ hx
  refine cnt_notfree h hr hc h0 (by omega) fun hf => ?_
  rw [freeB_iff.2 hf] at hx
  cases hx
theorem cnt_le5 {n : Nat} (hn : n ≤ 5) (b : List (List Int)) : cnt n b ≤ 298023223876953125 := by
  have h1 : cnt n b ≤ (allSq n).length := List.countP_le_length
  have h2 : (allSq n).length ≤ (allL n (allL n (ints n))).length := List.length_filter_le _ _
  rw [len_allL, len_allL] at h2
  have h3 : (ints n).length = n := by simp [ints]
  rw [h3] at h2
  have h4 : n ^ n ≤ 5 ^ 5 := Nat.le_trans (Nat.pow_le_pow_left hn n) (Nat.pow_le_pow_right (by decide) hn)
  have h5 : (n ^ n) ^ n ≤ (5 ^ 5) ^ 5 := Nat.le_trans (Nat.pow_le_pow_left h4 n) (Nat.pow_le_pow_right (by decide) hn)
  have h6 : (5 ^ 5) ^ 5 = 298023223876953125 := by decide
  omega
/-- What Count$1 is shown to do. -/
def CountC (p n pF pC : Nat) (b : List (List Int)) : Prop := ∀ w : World, FilB w p n b → Tab w → w.cell? ⟨pF, 0, none⟩ = some (.pointer (some ⟨p, 0, none⟩)) → w.cell? ⟨pC, 0, none⟩ = some (.func (.func 80) #[] #[.pointer (some ⟨pF, 0, none⟩), .pointer (some ⟨pC, 0, none⟩)]) →
  Calls Tryd.prog 80 #[.pointer (some ⟨pF, 0, none⟩), .pointer (some ⟨pC, 0, none⟩)] w fun e w' => e = .returned (.int .i64 (cnt n b : Int)) ∧ w.grownBy w' (some p) ∧ FilB w' p n b
theorem enter80 (args : Array Value) (w : World) : (callFunc 80 args).run Tryd.prog w = .ok (.enter 80 args) w := by simp [go_sem]
set_option maxRecDepth 100000 in
set_option maxHeartbeats 8000000 in
theorem f80_step (p n pF pC : Nat) (hp : p ≠ 1) (hn5 : n ≤ 5) (b : List (List Int)) (hb : IsBed n b) (ih : ∀ r c x, r < n → c < n → gAt b r c < 0 → x ∈ crops n b r c → CountC p n pF pC (gset b r c (x : Nat))) : CountC p n pF pC b := by
  intro w hf ht cF cC
  have hn : n ≤ 7 := by omega
  have HB := Lib.hid hb
  have IH := Lib.hid ih
  have HT := Lib.hid ht
  have HF := Lib.hid hf
  have hpF : some pF ≠ some p := fun e => by
    injection e with e
    have := hf.n0
    rw [← e, cF] at this; cases this
  have hpC : some pC ≠ some p := fun e => by
    injection e with e
    have := hf.n0
    rw [← e, cC] at this; cases this
  have CC : Hid (∀ w', w.grownBy w' (some p) → w'.cell? ⟨pF, 0, none⟩ = some (.pointer (some ⟨p, 0, none⟩)) ∧ w'.cell? ⟨pC, 0, none⟩ = some (.func (.func 80) #[] #[.pointer (some ⟨pF, 0, none⟩), .pointer (some ⟨pC, 0, none⟩)])) := Lib.hid fun w' h => ⟨(World.cell?_of_block (h.block pF (lt_of_cell cF) hpF)).trans cF, (World.cell?_of_block (h.block pC (lt_of_cell cC) hpC)).trans cC⟩
  have K81 := Lib.hid (f81_any p n b w hf hb hn)
  have hen := enter80
  have HLE := Lib.hid (cnt_le5 hn5 b)
  clear hf ht hb ih cC hpF hpC
  go_enter Tryd.func80, Tryd.ntmps80
  go_wp2_with fail
  refine K81.out.mono ?_
  rintro e w1 ⟨hnar, q1, rfl⟩
  have FB : Hid (FilB (w.drewN q1) p n b) := HF.out.drewN q1
  have GB : Hid (w.grownBy (w.drewN q1) (some p)) := only_drewN (World.grownBy.refl w _) q1
  generalize w.drewN q1 = wb at *
  rcases hnar with ⟨r, c, hr, hc, h0, rfl⟩ | ⟨hall, x, y, rfl⟩
  · have K56 := Lib.hid (f56_any p n r c b wb FB.out HB.out hn hr hc)
    have hol := openM_lt n b r c
    have h128 := two_pow_128 hn
    have HBO := Lib.hid (bits_open hn b r c)
    have IH := Lib.hid (fun x hx => IH.out r c x hr hc h0 hx)
    have HSUM := Lib.hid (cnt_crops HB.out.shape hr hc h0)
    have HC : Hid (∀ x, x ∈ crops n b r c → x < n ∧ freeP n b r c x) := fun x hx => mem_crops.1 hx
    have hcr := Lib.hid h0
    have cFb := (CC.out wb GB.out).1
    generalize openM n b r c = M at *
    generalize crops n b r c = L at *
    clear K81 h0 cF
    go_wp2_with fail
    refine K56.out.mono ?_
    rintro e w1 ⟨rfl, q2, rfl⟩
    have F2 : Hid (FilB (wb.drewN q2) p n b) := FB.out.drewN q2
    have G2 : Hid (w.grownBy (wb.drewN q2) (some p)) := only_drewN GB.out q2
    generalize wb.drewN q2 = w2 at *
    clear K56 cFb
    go_wp2_with fail
    go_loopw [7, 6] (fun a s wr => ∃ (m S : Nat) (pre : List Nat), m < 128 ∧ a = .int .i64 (m : Int) ∧ s = .int .i64 (S : Int) ∧ Hid (L = pre ++ bitsOf m ∧ S = (pre.map fun x => cnt n (gset b r c (x : Nat))).sum) ∧ w.grownBy wr (some p) ∧ FilB wr p n b) (fun a _ _ => (intOf a).toNat)
    case atStart => exact ⟨M, 0, [], by omega, rfl, rfl, ⟨by rw [HBO.out]; rfl, rfl⟩, G2.out, F2.out⟩
    case round => as_aux_lemma =>
      obtain ⟨m, S, pre, hm, rfl, rfl, hst, hg, hfr⟩ := hrel
      have HG := Lib.hid hg
      have HFR := Lib.hid hfr
      obtain ⟨cF1, cC1⟩ := CC.out wr hg
      clear hg hfr
      by_cases hm0 : 0 < m
      · obtain ⟨hL, hS⟩ := hst.out
        rw [bits_step m hm hm0] at hL
        obtain ⟨b1, b2, b3⟩ := low_bit m hm hm0
        have hxL : tzN m ∈ L := by rw [hL]; simp
        obtain ⟨hxn, hxf⟩ := HC.out _ hxL
        have K57 := Lib.hid (fun W hT => f57_any m W hT hm0 hm)
        have HT0 : Hid (Tab wr) := HT.out.only HG.out hp
        have hand := bits_and_nat m (m - 1) (by omega) (by omega)
        have hand2 : bits .and .i64 (m : Int) ((m : Int) - 1) = ((m &&& (m - 1) : Nat) : Int) := by rw [← hand]; congr 1; omega
        obtain ⟨N, hN⟩ : ∃ z, z = cnt n (gset b r c (tzN m : Nat)) := ⟨_, rfl⟩
        have HNX : Hid (L = (pre ++ [tzN m]) ++ bitsOf (m &&& (m - 1)) ∧ S + N = ((pre ++ [tzN m]).map fun x => cnt n (gset b r c (x : Nat))).sum) := ⟨by rw [hL]; simp, by rw [List.map_append, List.sum_append, ← hS, hN]; simp⟩
        have hbound : S + N ≤ 298023223876953125 := by
          have h1 := HLE.out
          rw [HSUM.out, HNX.out.1, List.map_append, List.sum_append, ← HNX.out.2] at h1
          omega
        have HON := Lib.hid (fun W hF => f58_on p n r c (tzN m) b W hF HB.out hn hr hc hxn hcr.out)
        have HOFF := Lib.hid (fun W hF => f58_off p n r c (tzN m) b W hF HB.out hn hr hc hxn hcr.out hxf)
        have HCNT := Lib.hid (IH.out _ hxL)
        have HNN := Lib.hid hN
        generalize tzN m = x at *
        generalize m &&& (m - 1) = m2 at *
        clear hL hS b1 b2 hxL hand hxf hst hN
        go_wp2_with fail
        refine (K57.out _ HT0.out).mono ?_
        rintro e w3 ⟨rfl, rfl⟩
        go_wp2_with fail
        refine (HON.out _ HFR.out).mono ?_
        rintro e w3 ⟨rfl, hg3, hf3⟩
        have HT3 : Hid (Tab w3) := HT0.out.only hg3 hp
        have HG3 : Hid (w.grownBy w3 (some p)) := only_trans HG.out hg3
        have HF3 := Lib.hid hf3
        obtain ⟨cF3, cC3⟩ := CC.out w3 HG3.out
        have K80 := HCNT.out w3 HF3.out HT3.out cF3 cC3
        rw [← HNN.out] at K80
        have K80 := Lib.hid K80
        clear hg3 hf3 cF1 cC1
        go_wp2_with fail
        refine K80.out.mono ?_
        rintro e w4 ⟨rfl, hg4, hf4⟩
        have HG4 : Hid (w.grownBy w4 (some p)) := only_trans HG3.out hg4
        have HF4 := Lib.hid hf4
        have cF4 := (CC.out w4 HG4.out).1
        clear hg4 hf4 cF3 cC3
        go_wp2_with fail
        refine (HOFF.out _ HF4.out).mono ?_
        rintro e w5 ⟨rfl, hg5, hf5⟩
        have HG5 : Hid (w.grownBy w5 (some p)) := only_trans HG4.out hg5
        have HF5 := Lib.hid hf5
        clear hg5 hf5 cF4
        go_wp2
        go_roundw
        case rel => exact ⟨m2, S + N, pre ++ [x], by omega, rfl, by go_num, HNX.out, HG5.out, HF5.out⟩
        case measure => simp [intOf]; omega
      · obtain rfl : m = 0 := by omega
        have HS : Hid (S = cnt n b) := Lib.hid (by
          have h := hst.out.1
          rw [bits_zero, List.append_nil] at h
          rw [HSUM.out, h]; exact hst.out.2)
        clear hst
        go_wp2
        go_ret
        exact ⟨ret_int (by rw [← HS.out]), HG.out, HFR.out⟩
  · have HS : Hid (cnt n b = 1) := Lib.hid (cnt_full ⟨HB.out.shape, fun r c hr hc => ⟨hall r c hr hc, (HB.out.lo r c hr hc).2⟩, HB.out.once⟩)
    clear hall
    go_wp2
    go_ret
    exact ⟨ret_int (by rw [HS.out]; rfl), GB.out, FB.out⟩
/-- bed.Count$1 -/
theorem f80_any (p n pF pC : Nat) (hp : p ≠ 1) (hn : n ≤ 5) (b : List (List Int)) (hb : IsBed n b) : CountC p n pF pC b := by
  have key : ∀ k b, empt n b < k → IsBed n b → CountC p n pF pC b := by
    intro k
    induction k with
    | zero => intro b h; omega
    | succ k ih =>
      intro b hk hb
      refine f80_step p n pF pC hp hn b hb fun r c x hr hc h0 hx => ih _ ?_ ?_
      · have := empt_put hb.shape hr hc h0 (x := (x : Int)) (by omega)
        omega
      · obtain ⟨h1, h2⟩ := mem_crops.1 hx
        exact hb.put hr hc (by omega) (by omega) h2
  exact key _ b (Nat.lt_succ_self _) hb
end Go.Proofs.YtiodednhadnekaaDoor
