/- Walks: Fill. -/
import Derived.Test.YtiodednhadnekaaDoorW12
namespace Go.Proofs.YtiodednhadnekaaDoor
open Go.RowKit Go.Deep

noncomputable def fillE (b : List (List Int)) : Int := if bedB b = true then (if canB b.length b = true then 0 else 10) else 2
noncomputable def fillL (b : List (List Int)) : List (List Int) := if bedB b = true then (if canB b.length b = true then fillTo b.length b b.length else []) else []
theorem fillStep_hit {n : Nat} {b : List (List Int)} {r c x : Nat} {pre suf : List Nat} (h0 : gAt b r c < 0) (hL : crops n b r c = pre ++ x :: suf) (hp : ∀ y ∈ pre, canB n (gset b r c (y : Nat)) = false) (hx : canB n (gset b r c (x : Nat)) = true) : fillStep n b r c = gset b r c (x : Nat) := by
  have : (crops n b r c).find? (fun x => canB n (gset b r c (x : Nat))) = some x := by
    rw [hL, List.find?_append, List.find?_eq_none.2 (fun y hy => by simp [hp y hy])]
    simp [hx]
  unfold fillStep
  rw [if_neg (by omega), this]
theorem fillStep_miss {n : Nat} {b : List (List Int)} {r c : Nat} (hp : ∀ y ∈ crops n b r c, canB n (gset b r c (y : Nat)) = false) : fillStep n b r c = b := by
  have : (crops n b r c).find? (fun x => canB n (gset b r c (x : Nat))) = none := List.find?_eq_none.2 (fun y hy => by simp [hp y hy])
  unfold fillStep
  rw [this]
  split <;> rfl
theorem fillStep_keep {n : Nat} {b : List (List Int)} {r c : Nat} (h : 0 ≤ gAt b r c) : fillStep n b r c = b := by unfold fillStep; rw [if_pos h]
theorem below_only {B : Nat} {a w w' : World} {p : Nat} (h : Below B a w) (hg : w.grownBy w' (some p)) (hB : B ≤ w.heap.size) (hp : B ≤ p) : Below B a w' := h.grown hg hB (fun j hj => by injection hj with hj; omega)
theorem BedsN.mono {w : World} {base base' : Nat} {A : Option Addr} {n c : Nat} {b : List (List Int)} (h : BedsN w base A n c b) (hb : base' ≤ base) : BedsN w base' A n c b :=
  ⟨h.1, h.2.1, h.2.2.1, h.2.2.2.1, fun hn => by
    obtain ⟨g, o, e, hc⟩ := h.2.2.2.2 hn
    refine ⟨g, o, e, fun j hj => ?_⟩
    obtain ⟨v, hv, hr⟩ := hc j hj
    exact ⟨v, hv, hr.mono hb⟩⟩
theorem find_bed {n : Nat} {b : List (List Int)} (h : bedB b = true) (hl : b.length = n) : 1 ≤ n ∧ n ≤ 7 ∧ IsBed n b := by
  subst hl; exact bedB_iff.1 h
set_option maxRecDepth 100000 in
set_option maxHeartbeats 8000000 in
/-- bed.Fill -/
theorem f19_any (A : Option Addr) (n c : Nat) (b : List (List Int)) (w : World) (hs : Beds w A n c b) (ht : Tab w) :
    Calls Tryd.prog 19 #[.slice A n c] w fun e w' => ∃ A' k c', e = .returned (.tuple #[.slice A' k c', .int .i64 (fillE b)]) ∧ BedsN w' w.heap.size A' k c' (fillL b) ∧ Below w.heap.size w w' := by
  have K53 := Lib.hid (f53_any A n c b w hs)
  have HT := Lib.hid ht
  cases hbed : bedB b
  · rw [hbed] at K53
    have HE : Hid (fillE b = 2 ∧ fillL b = []) := by unfold fillE fillL; rw [hbed]; exact ⟨rfl, rfl⟩
    clear hs ht hbed
    go_enter Tryd.func19, Tryd.ntmps19
    go_wp2_with fail
    refine K53.out.mono ?_
    rintro e w1 ⟨rfl, hb⟩
    have HB := Lib.hid hb
    clear hb
    go_wp2
    go_ret2
    exact ⟨none, 0, 0, by rw [HE.out.1]; rfl, by rw [HE.out.2]; exact BedsN.nil _ _, HB.out⟩
  · rw [hbed] at K53
    obtain ⟨hn1, hn7, hb⟩ := find_bed hbed hs.len
    have HB := Lib.hid hb
    have HS := Lib.hid hs
    have HE : Hid (∀ z, canB n b = z → fillE b = (if z = true then 0 else 10) ∧ fillL b = if z = true then fillTo n b n else []) := fun z hz => by
      unfold fillE fillL; rw [hbed, hs.len, hz]; exact ⟨rfl, rfl⟩
    clear hs ht hbed hb
    obtain ⟨B, hBw⟩ : ∃ B, B = w.heap.size := ⟨_, rfl⟩
    have HBW := Lib.hid hBw
    have hB1 : 1 < B := by rw [hBw]; exact HT.out.lt
    have HTB : Hid (∀ W, Below B w W → Tab W) := fun W h => HT.out.below (by rw [← HBW.out]; exact h)
    clear hBw
    rw [← HBW.out]
    go_enter Tryd.func19, Tryd.ntmps19
    go_wp2_with fail
    refine K53.out.mono ?_
    rintro e w1 ⟨rfl, hb⟩
    have B1 : Hid (Below B w w1) := by rw [HBW.out]; exact hb
    have K54 := Lib.hid (f54_any A n c b w1 (HS.out.below hb) HB.out hn7)
    clear hb
    go_wp2_with fail
    refine K54.out.mono ?_
    rintro e w2 ⟨rfl, hf, hb⟩
    obtain ⟨p, hp⟩ : ∃ p, p = w1.heap.size := ⟨_, rfl⟩
    rw [← hp] at hf
    have hpB : B ≤ p := by rw [hp]; have := B1.out.size; have := HBW.out; omega
    have hp1 : p ≠ 1 := by omega
    have B2 : Hid (Below B w w2) := B1.out.trans (hb.mono (by have := B1.out.size; have := HBW.out; omega))
    have F2 := Lib.hid hf
    rw [← hp]
    clear hf hb hp K54 K53
    have K55 := Lib.hid (f55_any p n hp1 hn7 b HB.out w2 F2.out (HTB.out _ B2.out))
    go_wp2_with fail
    refine K55.out.mono ?_
    rintro e w3 ⟨rfl, hg, hf⟩
    have B3 : Hid (Below B w w3) := below_only B2.out hg (by have := B2.out.size; have := HBW.out; omega) hpB
    have F3 := Lib.hid hf
    clear hg hf K55
    cases hcan : canB n b
    · obtain ⟨e1, e2⟩ := HE.out _ hcan
      have H1 := Lib.hid e1
      have H2 := Lib.hid e2
      clear e1 e2 hcan
      go_wp2
      go_ret2
      exact ⟨none, 0, 0, by rw [H1.out]; rfl, by rw [H2.out]; exact BedsN.nil _ _, B3.out⟩
    · obtain ⟨e1, e2⟩ := HE.out _ hcan
      have H1 := Lib.hid e1
      have H2 := Lib.hid e2
      clear e1 e2 hcan
      have c0 := F3.out.n0
      go_wp2
      go_loopw [21] (fun i wr => ∃ r : Nat, r ≤ n ∧ i = .int .i64 (r : Int) ∧ FilB wr p n (fillTo n b r) ∧ Below B w wr) (fun i _ => n - (intOf i).toNat)
      case atStart => exact ⟨0, by omega, rfl, F3.out, B3.out⟩
      case round => as_aux_lemma =>
        obtain ⟨r, hr, rfl, hf, hbel⟩ := hrel
        have HF := Lib.hid hf
        have HBL := Lib.hid hbel
        clear hf hbel
        by_cases hlt : r < n
        · have c0 := HF.out.n0
          have HRB := Lib.hid (fillTo_bed HB.out (Nat.le_of_lt hlt))
          have HNX : Hid (fillTo n b (r + 1) = fillRow n (fillTo n b r) r n) := rfl
          generalize fillTo n b r = g0 at *
          have HG0 : Hid (fillRow n g0 r 0 = g0) := rfl
          have r0 : (0 : Int) ≤ (r : Int) := by omega
          have r7 : (r : Int) < 7 := by omega
          go_wp2
          go_loopw [28] (fun i wr => ∃ k : Nat, k ≤ n ∧ i = .int .i64 (k : Int) ∧ FilB wr p n (fillRow n g0 r k) ∧ Below B w wr) (fun i _ => n - (intOf i).toNat)
          case atStart => exact ⟨0, by omega, rfl, by rw [HG0.out]; exact HF.out, HBL.out⟩
          case round => as_aux_lemma =>
            obtain ⟨k, hk, rfl, hf, hbel⟩ := hrel
            have HF := Lib.hid hf
            have HBL := Lib.hid hbel
            clear hf hbel
            by_cases hlk : k < n
            · have HRB := Lib.hid (fillRow_bed HRB.out hlt (Nat.le_of_lt hlk))
              have HNXT : Hid (fillRow n g0 r (k + 1) = fillStep n (fillRow n g0 r k) r k) := rfl
              generalize fillRow n g0 r k = g at *
              have hc := HF.out.at_ hn7 hlt hlk
              have k0 : (0 : Int) ≤ (k : Int) := by omega
              have k7 : (k : Int) < 7 := by omega
              by_cases hx0 : 0 ≤ gAt g r k
              · have HQ : Hid (fillRow n g0 r (k + 1) = g) := by rw [HNXT.out, fillStep_keep hx0]; rfl
                generalize gAt g r k = x at *
                go_wp2
                go_roundw
                case rel => exact ⟨k + 1, by omega, by go_num, by rw [HQ.out]; exact HF.out, HBL.out⟩
                case measure => simp [intOf]; omega
              · have hx1 : gAt g r k < 0 := by omega
                have K56 := Lib.hid (f56_any p n r k g wr HF.out HRB.out hn7 hlt hlk)
                have hol := openM_lt n g r k
                have h128 := two_pow_128 hn7
                have HBO := Lib.hid (bits_open hn7 g r k)
                have HC : Hid (∀ x, x ∈ crops n g r k → x < n ∧ freeP n g r k x) := fun x hx => mem_crops.1 hx
                have HITL : Hid (∀ pre x suf, crops n g r k = pre ++ x :: suf → (∀ y ∈ pre, canB n (gset g r k (y : Nat)) = false) → canB n (gset g r k (x : Nat)) = true → fillRow n g0 r (k + 1) = gset g r k (x : Nat)) := fun pre x suf h1 h2 h3 => by rw [HNXT.out, fillStep_hit hx1 h1 h2 h3]
                have HMIS : Hid ((∀ y ∈ crops n g r k, canB n (gset g r k (y : Nat)) = false) → fillRow n g0 r (k + 1) = g) := fun h => by rw [HNXT.out, fillStep_miss h]
                have HX1 := Lib.hid hx1
                generalize openM n g r k = M at *
                generalize crops n g r k = L at *
                generalize gAt g r k = x at hc hx0 hx1
                go_wp2_with fail
                refine K56.out.mono ?_
                rintro e w5 ⟨rfl, q, rfl⟩
                have F5 : Hid (FilB (wr.drewN q) p n g) := HF.out.drewN q
                have B5 : Hid (Below B w (wr.drewN q)) := below_drewN HBL.out q
                generalize wr.drewN q = w5 at *
                clear K56 hc hx0 hx1
                go_wp2_with fail
                go_loopw [7] (fun a wr => ∃ (m : Nat) (pre : List Nat), m < 128 ∧ a = .int .i64 (m : Int) ∧ Hid (L = pre ++ bitsOf m ∧ (∀ x ∈ pre, canB n (gset g r k (x : Nat)) = false)) ∧ FilB wr p n g ∧ Below B w wr) (fun a _ => (intOf a).toNat)
                case atStart => exact ⟨M, [], by omega, rfl, ⟨by rw [HBO.out]; rfl, fun x hx => by cases hx⟩, F5.out, B5.out⟩
                case round => as_aux_lemma =>
                  obtain ⟨m, pre, hm, rfl, hst, hf, hbel⟩ := hrel
                  have HFR := Lib.hid hf
                  have HBR := Lib.hid hbel
                  clear hf hbel
                  by_cases hm0 : 0 < m
                  · obtain ⟨hL, hpre⟩ := hst.out
                    rw [bits_step m hm hm0] at hL
                    obtain ⟨b1, b2, b3⟩ := low_bit m hm hm0
                    have hxL : tzN m ∈ L := by rw [hL]; simp
                    obtain ⟨hxn, hxf⟩ := HC.out _ hxL
                    have K57 := Lib.hid (f57_any m wr (HTB.out _ HBR.out) hm0 hm)
                    have hand := bits_and_nat m (m - 1) (by omega) (by omega)
                    have hand2 : bits .and .i64 (m : Int) ((m : Int) - 1) = ((m &&& (m - 1) : Nat) : Int) := by rw [← hand]; congr 1; omega
                    have HNX : Hid (canB n (gset g r k (tzN m : Nat)) = false → L = (pre ++ [tzN m]) ++ bitsOf (m &&& (m - 1)) ∧ (∀ x ∈ pre ++ [tzN m], canB n (gset g r k (x : Nat)) = false)) := fun h => ⟨by rw [hL]; simp, fun x hx => by
                      rcases List.mem_append.1 hx with hx | hx
                      · exact hpre x hx
                      · rw [List.mem_singleton] at hx; subst hx; exact h⟩
                    have HHIT := Lib.hid (HITL.out _ _ _ hL hpre)
                    have HON := Lib.hid (f58_on p n r k (tzN m) g wr HFR.out HRB.out hn7 hlt hlk hxn HX1.out)
                    have HOFF := Lib.hid (fun W hF => f58_off p n r k (tzN m) g W hF HRB.out hn7 hlt hlk hxn HX1.out hxf)
                    have HCAN := Lib.hid (f55_any p n hp1 hn7 _ (HRB.out.put hlt hlk (x := ((tzN m : Nat) : Int)) (by omega) (by omega) hxf))
                    generalize tzN m = x at *
                    generalize m &&& (m - 1) = m2 at *
                    clear hL hpre b1 b2 hxL hand hxf hst
                    go_wp2_with fail
                    refine K57.out.mono ?_
                    rintro e w6 ⟨rfl, rfl⟩
                    go_wp2_with fail
                    refine HON.out.mono ?_
                    rintro e w6 ⟨rfl, hg6, hf6⟩
                    have B6 : Hid (Below B w w6) := below_only HBR.out hg6 (by have := HBR.out.size; have := HBW.out; omega) hpB
                    have F6 := Lib.hid hf6
                    clear hg6 hf6
                    go_wp2_with fail
                    refine (HCAN.out w6 F6.out (HTB.out _ B6.out)).mono ?_
                    rintro e w7 ⟨rfl, hg7, hf7⟩
                    have B7 : Hid (Below B w w7) := below_only B6.out hg7 (by have := B6.out.size; have := HBW.out; omega) hpB
                    have F7 := Lib.hid hf7
                    clear hg7 hf7
                    cases hcan : canB n (gset g r k (x : Nat))
                    · have HS := Lib.hid (HNX.out hcan)
                      clear hcan
                      go_wp2_with fail
                      refine (HOFF.out _ F7.out).mono ?_
                      rintro e w8 ⟨rfl, hg8, hf8⟩
                      have B8 : Hid (Below B w w8) := below_only B7.out hg8 (by have := B7.out.size; have := HBW.out; omega) hpB
                      have F8 := Lib.hid hf8
                      clear hg8 hf8
                      go_wp2
                      go_roundw
                      case rel => exact ⟨m2, pre ++ [x], by omega, rfl, HS.out, F8.out, B8.out⟩
                      case measure => simp [intOf]; omega
                    · have HS := Lib.hid (HHIT.out hcan)
                      clear hcan
                      go_wp2
                      go_roundw
                      case rel => exact ⟨k + 1, by omega, by go_num, by rw [HS.out]; exact F7.out, B7.out⟩
                      case measure => simp [intOf]; omega
                  · obtain rfl : m = 0 := by omega
                    have HS : Hid (fillRow n g0 r (k + 1) = g) := HMIS.out (fun x hx => hst.out.2 x (by have h := hst.out.1; rw [bits_zero, List.append_nil] at h; rw [← h]; exact hx))
                    clear hst
                    go_wp2
                    go_roundw
                    case rel => exact ⟨k + 1, by omega, by go_num, by rw [HS.out]; exact HFR.out, HBR.out⟩
                    case measure => simp [intOf]; omega
            · obtain rfl : k = n := by omega
              go_wp2
              go_roundw
              case rel => exact ⟨r + 1, by omega, by go_num, by rw [HNX.out]; exact HF.out, HBL.out⟩
              case measure => simp [intOf]; omega
        · obtain rfl : r = n := by omega
          have HRB := Lib.hid (fillTo_bed HB.out (Nat.le_refl r))
          have K59 := Lib.hid (f59_any p r (fillTo r b r) wr HF.out HRB.out.shape hn7)
          go_wp2_with fail
          refine K59.out.mono ?_
          rintro e w9 ⟨A9, c9, rfl, hN, hb⟩
          have B9 : Hid (Below B w w9) := HBL.out.trans (hb.mono (by have := HBL.out.size; have := HBW.out; omega))
          have N9 : Hid (BedsN w9 wr.heap.size A9 r c9 (fillTo r b r)) := hN
          have hBr : B ≤ wr.heap.size := by have := HBL.out.size; have := HBW.out; omega
          clear hN hb K59
          go_wp2
          go_ret2
          refine ⟨A9, r, c9, by rw [H1.out]; rfl, ?_, B9.out⟩
          rw [H2.out]
          exact N9.out.mono hBr
end Go.Proofs.YtiodednhadnekaaDoor
