/- Walks: the filler: can. -/
import Derived.Test.YtiodednhadnekaaDoorW9
import Derived.Test.YtiodednhadnekaaDoorPlain4
namespace Go.Proofs.YtiodednhadnekaaDoor
open Go.RowKit Go.Deep

theorem Tab.only {w w' : World} {p : Nat} (h : Tab w) (hg : w.grownBy w' (some p)) (hp : p ≠ 1) : Tab w' := h.grown hg (fun e => hp (by injection e with e; exact e.symm))
/-- What can is shown to do at a bed. -/
def CanC (p n : Nat) (b : List (List Int)) : Prop := ∀ w : World, FilB w p n b → Tab w → Calls Tryd.prog 55 #[.pointer (some ⟨p, 0, none⟩)] w fun e w' => e = .returned (.bool (canB n b)) ∧ w.grownBy w' (some p) ∧ FilB w' p n b
set_option maxRecDepth 100000 in
set_option maxHeartbeats 4000000 in
theorem f55_step (p n : Nat) (hp : p ≠ 1) (hn : n ≤ 7) (b : List (List Int)) (hb : IsBed n b) (ih : ∀ r c x, r < n → c < n → gAt b r c < 0 → x ∈ crops n b r c → CanC p n (gset b r c (x : Nat))) : CanC p n b := by
  intro w hf ht
  have HF := Lib.hid hf
  have HT := Lib.hid ht
  have HB := Lib.hid hb
  have IH := Lib.hid ih
  have K88 := Lib.hid (f88_any p n b w hf hb hn)
  cases hh : homeless n b
  · rw [hh] at K88
    clear hf ht hb ih hh
    go_enter Tryd.func55, Tryd.ntmps55
    go_wp2_with fail
    refine K88.out.mono ?_
    rintro e w1 ⟨rfl, q, rfl⟩
    have FA : Hid (FilB (w.drewN q) p n b) := HF.out.drewN q
    have GA : Hid (w.grownBy (w.drewN q) (some p)) := only_drewN (World.grownBy.refl w _) q
    generalize w.drewN q = wa at *
    have K81 := Lib.hid (f81_any p n b wa FA.out HB.out hn)
    go_wp2_with fail
    refine K81.out.mono ?_
    rintro e w1 ⟨hnar, q1, rfl⟩
    have FB : Hid (FilB (wa.drewN q1) p n b) := FA.out.drewN q1
    have GB : Hid (w.grownBy (wa.drewN q1) (some p)) := only_drewN GA.out q1
    generalize wa.drewN q1 = wb at *
    rcases hnar with ⟨r, c, hr, hc, h0, rfl⟩ | ⟨hall, x, y, rfl⟩
    · have K56 := Lib.hid (f56_any p n r c b wb FB.out HB.out hn hr hc)
      have hol := openM_lt n b r c
      have h128 := two_pow_128 hn
      have HBO := Lib.hid (bits_open hn b r c)
      have IH := Lib.hid (fun x hx => IH.out r c x hr hc h0 hx)
      have HHIT : Hid (∀ x, x ∈ crops n b r c → canB n (gset b r c (x : Nat)) = true → canB n b = true) := fun x hx h => can_hit HB.out hr hc h0 (mem_crops.1 hx).1 h
      have HMISS : Hid ((∀ x ∈ crops n b r c, canB n (gset b r c (x : Nat)) = false) → canB n b = false) := can_miss HB.out hr hc h0
      have HC : Hid (∀ x, x ∈ crops n b r c → x < n ∧ freeP n b r c x) := fun x hx => mem_crops.1 hx
      have hcr := Lib.hid h0
      generalize openM n b r c = M at *
      generalize crops n b r c = L at *
      clear K88 K81 h0
      go_wp2_with fail
      refine K56.out.mono ?_
      rintro e w1 ⟨rfl, q2, rfl⟩
      have F2 : Hid (FilB (wb.drewN q2) p n b) := FB.out.drewN q2
      have G2 : Hid (w.grownBy (wb.drewN q2) (some p)) := only_drewN GB.out q2
      generalize wb.drewN q2 = w2 at *
      clear K56
      go_wp2_with fail
      go_loopw [6] (fun a wr => ∃ (m : Nat) (pre : List Nat), m < 128 ∧ a = .int .i64 (m : Int) ∧ Hid (L = pre ++ bitsOf m ∧ (∀ x ∈ pre, canB n (gset b r c (x : Nat)) = false)) ∧ w.grownBy wr (some p) ∧ FilB wr p n b) (fun a _ => (intOf a).toNat)
      case atStart => exact ⟨M, [], by omega, rfl, ⟨by rw [HBO.out]; rfl, fun x hx => by cases hx⟩, G2.out, F2.out⟩
      case round => as_aux_lemma =>
        obtain ⟨m, pre, hm, rfl, hst, hg, hfr⟩ := hrel
        have HG := Lib.hid hg
        have HFR := Lib.hid hfr
        clear hg hfr
        by_cases hm0 : 0 < m
        · obtain ⟨hL, hpre⟩ := hst.out
          rw [bits_step m hm hm0] at hL
          obtain ⟨b1, b2, b3⟩ := low_bit m hm hm0
          have hxL : tzN m ∈ L := by rw [hL]; simp
          obtain ⟨hxn, hxf⟩ := HC.out _ hxL
          have K57 := Lib.hid (fun W hT => f57_any m W hT hm0 hm)
          have HT0 : Hid (Tab wr) := HT.out.only HG.out hp
          have hand := bits_and_nat m (m - 1) (by omega) (by omega)
          have hand2 : bits .and .i64 (m : Int) ((m : Int) - 1) = ((m &&& (m - 1) : Nat) : Int) := by rw [← hand]; congr 1; omega
          have HNX : Hid (canB n (gset b r c (tzN m : Nat)) = false → L = (pre ++ [tzN m]) ++ bitsOf (m &&& (m - 1)) ∧ (∀ x ∈ pre ++ [tzN m], canB n (gset b r c (x : Nat)) = false)) := fun h => ⟨by rw [hL]; simp, fun x hx => by
            rcases List.mem_append.1 hx with hx | hx
            · exact hpre x hx
            · rw [List.mem_singleton] at hx; subst hx; exact h⟩
          have HHIT := Lib.hid (HHIT.out _ hxL)
          have HON := Lib.hid (fun W hF => f58_on p n r c (tzN m) b W hF HB.out hn hr hc hxn hcr.out)
          have HOFF := Lib.hid (fun W hF => f58_off p n r c (tzN m) b W hF HB.out hn hr hc hxn hcr.out hxf)
          have HCAN := Lib.hid (IH.out _ hxL)
          have HHF := Lib.hid hxf
          generalize tzN m = x at *
          generalize m &&& (m - 1) = m2 at *
          clear hL hpre b1 b2 hxL hand hxf hst
          go_wp2_with fail
          refine (K57.out _ HT0.out).mono ?_
          rintro e w3 ⟨rfl, rfl⟩
          go_wp2_with fail
          refine (HON.out _ HFR.out).mono ?_
          rintro e w3 ⟨rfl, hg3, hf3⟩
          have HT3 : Hid (Tab w3) := HT0.out.only hg3 hp
          have HG3 : Hid (w.grownBy w3 (some p)) := only_trans HG.out hg3
          have HF3 := Lib.hid hf3
          clear hg3 hf3
          go_wp2_with fail
          refine (HCAN.out w3 HF3.out HT3.out).mono ?_
          rintro e w4 ⟨rfl, hg4, hf4⟩
          have HG4 : Hid (w.grownBy w4 (some p)) := only_trans HG3.out hg4
          have HF4 := Lib.hid hf4
          clear hg4 hf4
          go_wp2_with fail
          refine (HOFF.out _ HF4.out).mono ?_
          rintro e w5 ⟨rfl, hg5, hf5⟩
          have HG5 : Hid (w.grownBy w5 (some p)) := only_trans HG4.out hg5
          have HF5 := Lib.hid hf5
          clear hg5 hf5
          cases hcan : canB n (gset b r c (x : Nat))
          · have HS := Lib.hid (HNX.out hcan)
            clear hcan
            go_wp2
            go_roundw
            case rel => exact ⟨m2, pre ++ [x], by omega, rfl, HS.out, HG5.out, HF5.out⟩
            case measure => simp [intOf]; omega
          · have HS := Lib.hid (HHIT.out hcan)
            clear hcan
            go_wp2
            go_ret
            exact ⟨ret_bool HS.out.symm, HG5.out, HF5.out⟩
        · obtain rfl : m = 0 := by omega
          have HS : Hid (canB n b = false) := HMISS.out (fun x hx => hst.out.2 x (by have h := hst.out.1; rw [bits_zero, List.append_nil] at h; rw [← h]; exact hx))
          clear hst
          go_wp2
          go_ret
          exact ⟨ret_bool HS.out.symm, HG.out, HFR.out⟩
    · have HS : Hid (canB n b = true) := can_full HB.out hall
      clear hall
      go_wp2
      go_ret
      exact ⟨ret_bool HS.out.symm, GB.out, FB.out⟩
  · rw [hh] at K88
    have HS := Lib.hid (can_home hb hh)
    clear hf ht hb ih hh
    go_enter Tryd.func55, Tryd.ntmps55
    go_wp2_with fail
    refine K88.out.mono ?_
    rintro e w1 ⟨rfl, q, rfl⟩
    go_wp2
    go_ret
    exact ⟨ret_bool HS.out.symm, only_drewN (World.grownBy.refl w _) _, HF.out⟩
/-- (*filler).can -/
theorem f55_any (p n : Nat) (hp : p ≠ 1) (hn : n ≤ 7) (b : List (List Int)) (hb : IsBed n b) : CanC p n b := by
  have key : ∀ k b, empt n b < k → IsBed n b → CanC p n b := by
    intro k
    induction k with
    | zero => intro b h; omega
    | succ k ih =>
      intro b hk hb
      refine f55_step p n hp hn b hb fun r c x hr hc h0 hx => ih _ ?_ ?_
      · have := empt_put hb.shape hr hc h0 (x := (x : Int)) (by omega)
        omega
      · obtain ⟨h1, h2⟩ := mem_crops.1 hx
        exact hb.put hr hc (by omega) (by omega) h2
  exact key _ b (Nat.lt_succ_self _) hb
end Go.Proofs.YtiodednhadnekaaDoor
