/- Walks: Cut (both). -/
import Derived.Test.YtmepndnckcpgjaaGreatW16
import Derived.Test.YtmepndnckcpgjaaGreatF2
import Derived.Test.YtmepndnckcpgjaaGreatPlain6
import Derived.BigRegion
namespace Go.Proofs.YtmepndnckcpgjaaGreat
open Go.RowKit

/-- A slice of slices of ints that reads as a list of lists. -/
def IntsS (w : World) (A : Option Addr) (n : Nat) (xss : List (List Int)) : Prop :=
  xss.length = n ∧ n ≤ 17592186044415 ∧ (0 < n → ∃ b off, A = some ⟨b, off, none⟩ ∧ ∀ j, j < n → ∃ B c, w.cell? ⟨b, off + j, none⟩ = some (.slice B (xss.getD j []).length c) ∧ Ints w B (xss.getD j []).length (xss.getD j []))
theorem IntsS.below {w w' : World} {A : Option Addr} {n : Nat} {xss : List (List Int)} (h : IntsS w A n xss) (hb : Below w.heap.size w w') : IntsS w' A n xss :=
  ⟨h.1, h.2.1, fun hn => by
    obtain ⟨b, off, e, hc⟩ := h.2.2 hn
    exact ⟨b, off, e, fun j hj => by
      obtain ⟨B, c, h1, h2⟩ := hc j hj
      exact ⟨B, c, (hb.cell (lt_of_cell h1)).trans h1, h2.below hb⟩⟩⟩
theorem IntsS.drewN {w : World} {A : Option Addr} {n : Nat} {xss : List (List Int)} (h : IntsS w A n xss) (m : Nat) : IntsS (w.drewN m) A n xss := h
theorem shr_tmod (s i : Nat) : ((s : Int) / 2 ^ i).tmod 2 = if s.testBit i then 1 else 0 := by
  rw [Nat.testBit_eq_decide_div_mod_eq, cast_shr]
  generalize s / 2 ^ i = t
  rw [Int.tmod_eq_emod_of_nonneg (by omega)]
  by_cases h : t % 2 = 1
  · simp [h]; omega
  · simp [h]; omega
/-- A row of three. -/
theorem ints3 {w : World} {B : Option Addr} {n : Nat} {h : List Int} (hi : Ints w B n h) (hn : n = 3) : ∃ b off, B = some ⟨b, off, none⟩ ∧ w.cell? ⟨b, off, none⟩ = some (.int .i64 (hA h)) ∧
    w.cell? ⟨b, off + 1, none⟩ = some (.int .i64 (hB h)) ∧ w.cell? ⟨b, off + 2, none⟩ = some (.int .i64 (hC h)) := by
  obtain ⟨b, off, e, hc⟩ := hi.ad (by omega)
  exact ⟨b, off, e, hc 0 (by omega), hc 1 (by omega), hc 2 (by omega)⟩

/-- A new slice of ints and an error came back, and nothing that was there has changed. -/
def SlErr (w : World) (xs : List Int) (err : Int) (e : Ending) (w' : World) : Prop :=
  ∃ A' k c', e = .returned (.tuple #[.slice A' k c', .int .i64 err]) ∧ Ints w' A' k xs ∧ Below w.heap.size w w'
theorem SlErr.nil {w w' : World} {xs : List Int} {err er : Int} (h1 : err = er) (h2 : xs = []) (hb : Below w.heap.size w w') : SlErr w xs err (.returned (.tuple #[.slice none 0 0, .int .i64 er])) w' := by
  subst h1; subst h2; exact ⟨none, 0, 0, rfl, Ints.nil _ _, hb⟩

set_option maxRecDepth 100000 in
set_option maxHeartbeats 8000000 in
/-- share.Cut -/
theorem f22_any (A : Option Addr) (n : Int) (len c : Nat) (xss : List (List Int)) (w : World) (hs : IntsS w A len xss) :
    Calls Tryz.prog 13 #[.int .i64 n, .slice A len c] w (SlErr w (cutR n xss) (cutErr n xss)) := by
  have hfail : Hid (∀ er w', er ≠ 0 → cutErr n xss = er → Below w.heap.size w w' → SlErr w (cutR n xss) (cutErr n xss) (.returned (.tuple #[.slice none 0 0, .int .i64 er])) w') := by
    intro er w' h1 h2 hb
    exact SlErr.nil h2 (by unfold cutR; rw [if_neg (by rw [h2]; exact h1)]) hb
  have hsm := hs.2.1
  have HL := Lib.hid hs.1
  have HS := Lib.hid hs
  by_cases h1 : n < 1
  · have he : Hid (cutErr n xss = 2) := by unfold cutErr; rw [if_neg (by omega)]; rfl
    clear hs
    go_enter Tryz.func13, Tryz.ntmps13
    go_wp2
    go_ret2
    exact hfail.out 2 _ (by decide) he.out (Below.refl _ _)
  by_cases h6 : 6 < n
  · have he : Hid (cutErr n xss = 2) := by unfold cutErr; rw [if_neg (by omega)]; rfl
    clear hs
    go_enter Tryz.func13, Tryz.ntmps13
    go_wp2
    go_ret2
    exact hfail.out 2 _ (by decide) he.out (Below.refl _ _)
  by_cases h20 : 20 < len
  · have he : Hid (cutErr n xss = 3) := by unfold cutErr; rw [if_pos (by omega), if_pos (by rw [HL.out]; exact h20)]; rfl
    clear hs
    go_enter Tryz.func13, Tryz.ntmps13
    go_wp2
    go_ret2
    exact hfail.out 3 _ (by decide) he.out (Below.refl _ _)
  obtain ⟨n, rfl⟩ := nat_of n (by omega)
  have he : Hid (cutErr n xss = if hedgesOk n xss then 0 else 2) := by unfold cutErr; rw [if_pos (by omega), if_neg (by rw [HL.out]; omega)]; rfl
  obtain ⟨N, hN, hshl⟩ := shl_one n (by omega)
  have hN1 : 1 ≤ N := by rw [hN]; exact Nat.pow_pos (by omega)
  have hN2 : N ≤ 64 := by rw [hN]; exact pow6 n (by omega)
  have HN := Lib.hid hN
  obtain ⟨Z, hZ⟩ : ∃ Z, Z = ((List.replicate N (0 : Int)).map (Value.int .i64)).toArray := ⟨_, rfl⟩
  have hmk := make_ints N (by omega)
  rw [← hZ] at hmk
  have HZ := Lib.hid hZ
  clear hZ hN hs
  go_enter Tryz.func13, Tryz.ntmps13
  go_wp2
  go_loopw [7, 25] (fun _ i wr => ∃ k : Nat, k ≤ len ∧ i = .int .i64 k ∧ (∀ j, j < k → hedgeOk n (xss.getD j []) = true) ∧ ∃ q, wr = w.drewN q) (fun _ i _ => len - (intOf i).toNat)
  case atStart => exact ⟨0, by omega, rfl, fun j hj => absurd hj (by omega), 0, rfl⟩
  case round => as_aux_lemma =>
    obtain ⟨k, hk, rfl, hbef, q, rfl⟩ := hrel
    have HB := Lib.hid hbef
    clear hbef
    by_cases hlt : k < len
    · obtain ⟨b, off, rfl, hc⟩ := HS.out.2.2 (by omega)
      obtain ⟨B, d, hc, hi⟩ := hc k hlt
      have hlk := hi.small
      have HBD : Hid (hedgeOk n (xss.getD k []) = false → hedgesOk n xss = false) := fun h => hedgesOk_bad (by rw [HL.out]; exact hlt) h
      generalize hh : xss.getD k [] = h at *
      have HH := Lib.hid hh
      have H3 : Hid (h.length = 3 → ∃ b off, B = some ⟨b, off, none⟩ ∧ w.cell? ⟨b, off, none⟩ = some (.int .i64 (hA h)) ∧
        w.cell? ⟨b, off + 1, none⟩ = some (.int .i64 (hB h)) ∧ w.cell? ⟨b, off + 2, none⟩ = some (.int .i64 (hC h))) := fun h3 => ints3 hi h3
      clear hh hi
      by_cases h3 : h.length = 3
      · obtain ⟨bh, oh, rfl, c1, c2, c3⟩ := H3.out h3
        rw [h3] at hc
        have HOK : Hid (hedgeOk n (xss.getD k []) = true → hedgeOk n (xss.getD k []) = true) := fun h => h
        have HG : Hid (hedgeOk n h = (decide (0 ≤ hA h) && (decide (hA h < n) && (decide (0 ≤ hB h) && (decide (hB h < n) && (!decide (hA h = hB h) && (decide (0 ≤ hC h) && decide (hC h ≤ 1000)))))))) := by unfold hedgeOk Hid; rw [h3]; rfl
        generalize hA h = x0 at *
        generalize hB h = x1 at *
        generalize hC h = x2 at *
        clear h3 H3 hlk
        go_wp2_with fail
        refine wp_region_quiet_lit (by kernel_rfl) (by kernel_rfl) ?_
        repeat (any_goals (first | go_big_quiet_step (fail) | quiet_step (fail) | (refine wpQuiet_step (fun K hK => ?_); go_simp; split <;> (refine hK _ ?_; clear hK K))))
        all_goals (refine wpQuiet_nil ?_; intro _ hw'; obtain ⟨nq, hw''⟩ := hw'; subst hw'')
        all_goals first
          | (have hok : hedgeOk n h = false := by (rw [HG.out]; simp; omega)
             have he2 : Hid (cutErr n xss = 2) := by (rw [he.out, HBD.out hok]; rfl)
             clear hok
             go_wp2
             go_ret2
             exact hfail.out 2 _ (by decide) he2.out (below_draw (by first | exact ⟨_, rfl⟩ | exact ⟨_, World.drewN_drewN _ _ _⟩)))
          | (by_cases h1000 : 1000 < x2
             · have hok : hedgeOk n h = false := by (rw [HG.out]; simp; omega)
               have he2 : Hid (cutErr n xss = 2) := by (rw [he.out, HBD.out hok]; rfl)
               clear hok
               go_wp2
               go_ret2
               exact hfail.out 2 _ (by decide) he2.out (below_draw (by first | exact ⟨_, rfl⟩ | exact ⟨_, World.drewN_drewN _ _ _⟩))
             · have hok : Hid (hedgeOk n h = true) := by (rw [HG.out]; unfold Hid; simp; omega)
               have hxb : (x0 == x1) = false := beq_eq_false_iff_ne.2 (by omega)
               go_wp2
               · exfalso
                 rename_i hx
                 simp only [hxb, Bool.false_eq_true, or_false] at hx
                 omega
               exact ⟨⟨k + 1, by omega, by go_num, fun j hj => by
                 rcases Nat.lt_or_ge j k with h | h
                 · exact HB.out j h
                 · obtain rfl : j = k := by omega
                   rw [HH.out]; exact hok.out, by first | exact ⟨_, rfl⟩ | exact ⟨_, World.drewN_drewN _ _ _⟩⟩, by simp [intOf]; omega⟩)
      · have hq : ((h.length : Int) != 3) = true := by simp; omega
        have hok : hedgeOk n h = false := by unfold hedgeOk; rw [decide_eq_false h3]; rfl
        have he2 : Hid (cutErr n xss = 2) := by rw [he.out, HBD.out hok]; rfl
        clear h3 H3 hok HBD
        generalize h.length = lk at *
        go_wp2
        go_quiet (fail)
        go_wp2
        go_ret2
        exact hfail.out 2 _ (by decide) he2.out (below_draw ⟨_, World.drewN_drewN _ _ _⟩)
    · obtain rfl : k = len := by omega
      have hok := hedgesOk_all (n := n) (hs := xss) (fun j hj => HB.out j (by rw [HL.out] at hj; exact hj))
      have he0 : Hid (cutErr n xss = 0) := by rw [he.out, hok]; rfl
      have heR : Hid (cutR n xss = cutL n xss) := by unfold cutR; rw [he0.out]; rfl
      have HOK : Hid (∀ t, t < k → hedgeOk n (xss.getD t []) = true) := fun t ht => HB.out t ht
      have HTO : Hid (∀ g t, t ≤ k → 0 ≤ cutTo xss g t ∧ cutTo xss g t ≤ 1000 * (t : Int)) := fun g t ht => cutTo_in hok g t (by rw [HL.out]; exact ht)
      clear hok
      go_wp2
      obtain ⟨g0, hg0⟩ : ∃ g0, g0 = w.heap.size := ⟨_, rfl⟩
      have HG0 := Lib.hid hg0
      go_loopw [9, 85] (fun _ i wr => ∃ g : Nat, g ≤ N ∧ i = .int .i64 g ∧ Own wr w.heap.size (preTo (cutAt xss) N g) ∧ Below w.heap.size w wr) (fun _ i _ => N - (intOf i).toNat)
      case atStart => exact ⟨0, by omega, rfl, by rw [preTo_zero, HZ.out]; exact (Own.made w N).drewN q, below_drewN (below_alloc w _) q⟩
      case round => as_aux_lemma =>
        obtain ⟨g, hg, rfl, hown, hbel⟩ := hrel
        have HO := Lib.hid hown
        have HB2 := Lib.hid hbel
        clear hown hbel
        by_cases hgN : g < N
        · have hz : Hid ((preTo (cutAt xss) N g).set g (cutTo xss g 0) = preTo (cutAt xss) N g) := preTo_same _ _ _
          have hnx : Hid ((preTo (cutAt xss) N g).set g (cutTo xss g k) = preTo (cutAt xss) N (g + 1)) := by
            have e : cutAt xss g = cutTo xss g k := by unfold cutAt; rw [HL.out]
            have := preTo_succ (cutAt xss) N g
            rw [e] at this
            exact this
          have hpl : Hid ((preTo (cutAt xss) N g).length = N) := preTo_len _ _ _
          generalize preTo (cutAt xss) N g = W at *
          go_wp2
          go_loopw [11, 90] (fun _ i wr => ∃ t : Nat, t ≤ k ∧ i = .int .i64 t ∧ Own wr w.heap.size (W.set g (cutTo xss g t)) ∧ Below w.heap.size w wr) (fun _ i _ => k - (intOf i).toNat)
          case atStart => exact ⟨0, by omega, rfl, by rw [hz.out]; exact HO.out, HB2.out⟩
          case round => as_aux_lemma =>
            obtain ⟨t, ht, rfl, hown, hbel⟩ := hrel
            have HO3 := Lib.hid hown
            have HB3 := Lib.hid hbel
            by_cases hlt : t < k
            · obtain ⟨b, off, rfl, hc⟩ := (HS.out.below hbel).2.2 (by omega)
              obtain ⟨B, d, hc, hi⟩ := hc t hlt
              obtain ⟨h3, t1, t2, t3, t4, t5, t6, t7⟩ := hedge_good (HOK.out t hlt)
              have hst : Hid (cutTo xss g (t + 1) = cutTo xss g t + cut1 (xss.getD t []) g) := rfl
              have hcut : Hid (cut1 (xss.getD t []) g = if g.testBit (hA (xss.getD t [])).toNat = g.testBit (hB (xss.getD t [])).toNat then 0 else hC (xss.getD t [])) := rfl
              obtain ⟨bh, oh, rfl, c1, c2, c3⟩ := ints3 hi h3
              rw [h3] at hc
              have hbd := HTO.out g t (by omega)
              have c5 := hown.cell g (by rw [List.length_set, hpl.out]; exact hgN)
              rw [setD W g _ (by rw [hpl.out]; exact hgN)] at c5
              have c6 := hown.frozen g
              generalize cutTo xss g t = v at *
              generalize hA (xss.getD t []) = x0 at *
              generalize hB (xss.getD t []) = x1 at *
              generalize hC (xss.getD t []) = x2 at *
              obtain ⟨i0, rfl⟩ := nat_of x0 t1
              obtain ⟨i1, rfl⟩ := nat_of x1 t3
              have ea := shr_and g i0 (by omega)
              have eb := shr_and g i1 (by omega)
              simp only [Int.toNat_natCast] at hcut
              clear hown hbel hi h3 t5
              cases hb0 : g.testBit i0 <;> cases hb1 : g.testBit i1
              all_goals simp only [hb0, hb1] at ea eb
              all_goals first
                | (have hv : Hid (cutTo xss g (t + 1) = v) := by (rw [hst.out, hcut.out]; unfold Hid; simp [hb0, hb1])
                   clear hb0 hb1 hst hcut
                   go_wp2
                   go_quiet (fail)
                   go_wp2
                   exact ⟨⟨t + 1, by omega, by go_num, by rw [hv.out]; exact HO3.out.drewN _, below_drewN HB3.out _⟩, by simp [intOf]; omega⟩)
                | (have hv : Hid (cutTo xss g (t + 1) = v + x2) := by (rw [hst.out, hcut.out]; unfold Hid; simp [hb0, hb1])
                   clear hb0 hb1 hst hcut
                   go_wp2
                   go_quiet (fail)
                   go_wp2
                   go_region
                   go_wp2
                   exact ⟨⟨t + 1, by omega, by go_num, by (have h9 := fun q => (HO3.out.drewN q).set_ g (v + x2); rw [List.set_set] at h9; rw [hv.out]; exact h9 _), (below_drewN HB3.out _).setCell (Nat.le_refl _) _⟩, by simp [intOf]; omega⟩)
            · obtain rfl : t = k := by omega
              go_wp2
              go_roundw
              case rel => exact ⟨g + 1, by omega, by go_num, by rw [← hnx.out]; exact HO3.out, HB3.out⟩
              case measure => simp [intOf]; omega
        · obtain rfl : g = N := by omega
          go_wp2
          go_ret2
          exact ⟨_, _, _, by rw [he0.out]; rfl, by rw [heR.out, ← cutL_pre, ← HN.out]; exact HO.out.ints' (preTo_len _ _ _) (by omega), HB2.out⟩
end Go.Proofs.YtmepndnckcpgjaaGreat
