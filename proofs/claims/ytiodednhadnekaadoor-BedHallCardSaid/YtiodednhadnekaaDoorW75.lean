/- Walks: bed.Row, with the room of what it returns. -/
import Derived.Test.YtiodednhadnekaaDoorW72
namespace Go.Proofs.YtiodednhadnekaaDoor
open Go.RowKit Go.Deep
attribute [local go_sem ↓] Go.wp_at_zero Go.wp_at_succ

set_option maxRecDepth 100000 in
set_option maxHeartbeats 4000000 in
/-- bed.Row -/
theorem f45_cap (N : Int) (A : Option Addr) (ms c : Nat) (s : List (List Int)) (w : World) (hs : Beds w A ms c s) (ht : Tab w) :
    Calls Tryd.prog 45 #[.int .i64 N, .slice A ms c] w fun e w' => ∃ A' c', e = .returned (.tuple #[.slice A' (rwL N s).length c', .int .i64 (rwE N s)]) ∧ (rwL N s).length ≤ c' ∧ Ints w' A' (rwL N s).length (rwL N s) ∧ Below w.heap.size w w' := by
  have K84 := f84_any N A ms c s w hs
  cases hf : startB N s
  · rw [hf] at K84
    have HE : Hid (rwL N s = [] ∧ rwE N s = 2) := by unfold rwL rwE; rw [hf]; exact ⟨rfl, rfl⟩
    have K84 := Lib.hid K84
    clear hs hf ht
    go_enter Tryd.func45, Tryd.ntmps45
    go_wp2_with fail
    refine K84.out.mono ?_
    rintro e w1 ⟨rfl, hb⟩
    have HB := Lib.hid hb
    clear hb
    go_wp2
    go_ret2
    exact ⟨none, 0, by rw [HE.out.1, HE.out.2]; rfl, by rw [HE.out.1]; exact Nat.le_refl _, by rw [HE.out.1]; exact Ints.nil _ _, HB.out⟩
  · rw [hf] at K84
    have K84 := Lib.hid K84
    obtain ⟨n, rfl⟩ := startB_neg hf
    have hS := startB_iff.1 hf
    have hbl := hs.len
    have hn7 := hS.n7
    have hn1 := hS.n1
    have hsl := hS.len
    rcases Nat.lt_or_ge s.length n with hlt | hge
    · have HE : Hid (rwL n s = zs ((rwS n s).headD []) ∧ rwE n s = 0) := by
        unfold rwL rwE
        rw [if_pos ⟨hf, by omega⟩, if_pos hf, if_neg (by omega)]
        exact ⟨rfl, rfl⟩
      obtain ⟨t0, T0, hT0, htl0⟩ := rwS_some hS hlt
      have HR0 : Hid (rwS n s ≠ []) := Lib.hid (by rw [hT0]; simp)
      have HLEN : Hid (∀ l, (rwS n s).head? = some l → l.length = n ∧ rwL n s = zs l ∧ rwE n s = 0) := Lib.hid (by
        intro l hl
        rw [hT0] at hl
        have e : t0 = l := by simpa using hl
        subst e
        rw [hT0] at HE
        exact ⟨htl0, HE.out.1, HE.out.2⟩)
      have hq : ((ms : Int) == (n : Int)) = false := by rw [beq_eq_false_iff_ne]; omega
      have HS := Lib.hid hS
      have HBS := Lib.hid hs
      have HT := Lib.hid ht
      clear hs hf hS hbl hT0 HE ht
      go_enter Tryd.func45, Tryd.ntmps45
      go_wp2_with fail
      refine K84.out.mono ?_
      rintro e w1 ⟨rfl, hb1⟩
      have B1 := Lib.hid hb1
      clear hb1
      go_wp2_with fail
      refine (f85_any n A ms c s w1 (HBS.out.below B1.out) HS.out).mono ?_
      rintro e wq ⟨g, rfl, hO, hg, hb2⟩
      have B2 := Lib.hid (below_step B1.out hb2)
      have HO := Lib.hid hO
      have TQ := Lib.hid (HT.out.below B2.out)
      clear hO hg hb2 B1 HT
      go_wp2
      go_loopw [23, 7, 8] (fun ci oi ui wr => ∃ (l : List Nat) (v : Value), l.length ≤ n ∧ ci = .int .i64 (l.length : Int) ∧ v = oi ∧ Row wr wq.heap.size v (zs l) ∧ ui = .int .i64 (colsM l : Int) ∧ colsM l < 128 ∧ Hid (rowsF n s (n - l.length) l ≠ [] ∧ (rowsF n s (n - l.length) l).head? = (rwS n s).head?) ∧ Below wq.heap.size wq wr) (fun ci _ _ _ => n - (intOf ci).toNat)
      case atStart => exact ⟨[], _, by simp, rfl, rfl, Row.nil _ _, rfl, by decide, ⟨HR0.out, rfl⟩, Below.refl _ _⟩
      case round => as_aux_lemma =>
        obtain ⟨l, v, hln, rfl, rfl, hrow, rfl, hu, hsome, hbel⟩ := hrel
        have HB := Lib.hid hbel
        have HROW := Lib.hid hrow
        have HZL : Hid ((zs l).length = l.length) := zs_len l
        by_cases hltn : l.length < n
        · obtain ⟨k, hk⟩ : ∃ k, l.length + (k + 1) = n := ⟨n - l.length - 1, by omega⟩
          have ek : n - l.length = k + 1 := by omega
          have ek2 : n - (l.length + 1) = k := by omega
          rw [ek] at hsome
          have HX1 : Hid (∀ pre x suf, bitsOf (nd (opS n s l.length) (colsM l)) = pre ++ x :: suf → (∀ y ∈ pre, wayF n (opS n s) k (colsM l ||| 2 ^ y) = 0) → 0 < wayF n (opS n s) k (colsM l ||| 2 ^ x) → rowsF n s (n - (l ++ [x]).length) (l ++ [x]) ≠ [] ∧ (rowsF n s (n - (l ++ [x]).length) (l ++ [x])).head? = (rwS n s).head?) := Lib.hid (by
            intro pre x suf h1 h2 h3
            obtain ⟨a1, a2, _, _⟩ := rows_first HS.out hk h1 h2 h3
            rw [List.length_append, List.length_singleton, ek2]
            exact ⟨a2, by rw [← a1]; exact hsome.out.2⟩)
          have HX2 : Hid (∃ x ∈ bitsOf (nd (opS n s l.length) (colsM l)), 0 < wayF n (opS n s) k (colsM l ||| 2 ^ x)) := Lib.hid (rows_some HS.out hk hsome.out.1)
          have HCOL : Hid (∀ x, colsM (l ++ [x]) = colsM l ||| 2 ^ x) := Lib.hid fun x => colsM_app l x
          have HINT : Hid (Ints wr (some ⟨g, 0, none⟩) n (zs ((List.range n).map (opS n s)))) := Lib.hid ((HO.out.below' HB.out).ints' (by simp [zs_len]) (by omega))
          have hoj : opS n s l.length < 128 := opM_lt hn7 s l.length s.length
          have hnd : nd (opS n s l.length) (colsM l) < 128 := Nat.lt_of_le_of_lt (nd_le _ _) hoj
          have hb1 : bits .andNot .i64 (opS n s l.length : Int) (colsM l : Int) = ((nd (opS n s l.length) (colsM l) : Nat) : Int) := bits_nd _ _ (by omega) (by omega)
          obtain ⟨b, o, eb, hc⟩ := HINT.out.at_ hltn
          have e : (zs ((List.range n).map (opS n s))).getD l.length 0 = (opS n s l.length : Int) := by rw [zs_get]; simp [List.getD_eq_getElem?_getD, hltn]
          rw [e] at hc
          cases eb
          rw [Nat.zero_add] at hc
          have HLEN1 : Hid (∀ x : Nat, (l ++ [x]).length = l.length + 1) := Lib.hid fun x => by simp
          have HZA : Hid (∀ x : Nat, zs l ++ [(x : Int)] = zs (l ++ [x])) := Lib.hid fun x => (zs_app l [x]).symm
          obtain ⟨r, hr⟩ : ∃ z, z = l.length := ⟨_, rfl⟩
          obtain ⟨U, hU⟩ : ∃ z, z = colsM l := ⟨_, rfl⟩
          rw [← hr] at hk ek HX1 HX2 hnd hb1 hc hoj HZL HLEN1 hltn ⊢
          rw [← hU] at hu HX1 HX2 HCOL hnd hb1 ⊢
          obtain ⟨M, hM⟩ : ∃ z, z = nd (opS n s r) U := ⟨_, rfl⟩
          rw [← hM] at HX1 HX2 hnd hb1
          have K86 : Hid (∀ u : Nat, u < 128 → Calls Tryd.prog 86 #[.int .i64 (n : Int), .slice (some ⟨g, 0, none⟩) n n, .int .i64 ((r : Int) + 1), .int .i64 (u : Int)] wr fun e w' => e = .returned (.int .i64 (wayF n (opS n s) k u : Int)) ∧ wr = w') := Lib.hid fun u hu => f86_any n (opS n s) (some ⟨g, 0, none⟩) n hn7 (fun j _ => opM_lt hn7 s j s.length) k (r + 1) u wr (by omega) hu HINT.out
          have TR := Lib.hid (TQ.out.below HB.out)
          have hrn := hltn
          have r0 : (0 : Int) ≤ (r : Int) := by omega
          have rn : (r : Int) < (n : Int) := by omega
          generalize opS n s r = oj at *
          clear hrow hbel e hsome hM hU hr
          go_wp2
          go_loop [10, 7, 8] (fun mi oi ui => ∃ (m : Nat) (pre : List Nat), mi = .int .i64 (m : Int) ∧ v = oi ∧ ui = .int .i64 (U : Int) ∧ m < 128 ∧ Hid (bitsOf M = pre ++ bitsOf m ∧ ∀ y ∈ pre, wayF n (opS n s) k (U ||| 2 ^ y) = 0)) (fun mi _ _ => (intOf mi).toNat)
          case atStart => exact ⟨M, [], rfl, rfl, rfl, hnd, ⟨rfl, fun y hy => by cases hy⟩⟩
          case round => as_aux_lemma =>
            obtain ⟨m, pre, rfl, rfl, rfl, hm, hpre⟩ := hrel
            by_cases hm0 : 0 < m
            · have hst := bits_step m hm hm0
              obtain ⟨l1, l2, l3⟩ := low_bit m hm hm0
              have K57 := Lib.hid (f57_any m wr TR.out hm0 hm)
              have HX1m := Lib.hid (HX1.out pre (tzN m) (bitsOf (m &&& (m - 1))) (by rw [hpre.out.1, hst]) hpre.out.2)
              have HPRE : Hid (wayF n (opS n s) k (U ||| 2 ^ tzN m) = 0 → bitsOf M = (pre ++ [tzN m]) ++ bitsOf (m &&& (m - 1)) ∧ ∀ y ∈ pre ++ [tzN m], wayF n (opS n s) k (U ||| 2 ^ y) = 0) := Lib.hid fun h => ⟨by rw [hpre.out.1, hst]; simp, fun x hx => by
                rcases List.mem_append.1 hx with hx | hx
                · exact hpre.out.2 x hx
                · rw [List.mem_singleton] at hx; subst hx; exact h⟩
              have HCOLm := Lib.hid (HCOL.out (tzN m))
              have HLm := Lib.hid (HLEN1.out (tzN m))
              have HZm := Lib.hid (HZA.out (tzN m))
              obtain ⟨P, hP⟩ : ∃ z, z = 2 ^ tzN m := ⟨_, rfl⟩
              have hP128 : P < 128 := by rw [hP]; exact Nat.lt_of_lt_of_le (Nat.pow_lt_pow_right (by decide) l2) (by decide)
              have a1 := low_and m hm hm0
              rw [← hP] at a1 HX1m HPRE HCOLm
              obtain ⟨U2, hU2⟩ : ∃ z, z = U ||| P := ⟨_, rfl⟩
              have hU128 : U2 < 128 := by rw [hU2]; exact or_lt7 hu hP128
              have a2 : bits .or .i64 (U : Int) (P : Int) = (U2 : Int) := by rw [hU2]; exact bits_or_nat _ _ (by omega) (by omega)
              rw [← hU2] at HX1m HPRE HCOLm
              generalize tzN m = x at *
              obtain ⟨m2, hm2⟩ : ∃ z, z = m &&& (m - 1) := ⟨_, rfl⟩
              have e1 : (m : Int) - 1 = ((m - 1 : Nat) : Int) := by omega
              have a3 : bits .and .i64 (m : Int) ((m : Int) - 1) = (m2 : Int) := by rw [e1, hm2]; exact bits_and_nat _ _ (by omega) (by omega)
              have a4 : IntKind.i64.wrap (-(m : Int)) = -(m : Int) := IntWalk.i64_in _ (by omega)
              have K := Lib.hid (K86.out U2 hU128)
              obtain ⟨V, hV⟩ : ∃ z, z = wayF n (opS n s) k U2 := ⟨_, rfl⟩
              rw [← hV] at K HX1m HPRE
              rw [← hm2] at l3 HPRE
              have m0 : (0 : Int) < (m : Int) := by omega
              by_cases hV0 : 0 < V
              · have v0 : (0 : Int) < (V : Int) := by omega
                have HR := Lib.hid (HX1m.out hV0)
                obtain ⟨wb, hwb⟩ : ∃ z, z = wr.alloc (.cells #[.int .i64 (x : Int)] 3) := ⟨_, rfl⟩
                have hb3 : Below wq.heap.size wq (wr.alloc (.cells #[.int .i64 (x : Int)] 3)) := HB.out.alloc HB.out.size _
                have HB3 := Lib.hid hb3
                have HROW2 : Hid (Row (wr.alloc (.cells #[.int .i64 (x : Int)] 3)) wq.heap.size v (zs l)) := Lib.hid (HROW.out.alloc _)
                have HNEW : Hid (Own (wr.alloc (.cells #[.int .i64 (x : Int)] 3)) wr.heap.size [(x : Int)]) := heap_alloc_new wr _
                clear hst l1 l2 hP hU2 hm2 e1 hV hpre hwb hb3
                go_wp2_with fail
                refine K.out.mono ?_
                rintro e w3 ⟨rfl, rfl⟩
                go_wp2_with fail
                refine K57.out.mono ?_
                rintro e w3 ⟨rfl, rfl⟩
                go_wp2_with (at_builtin; refine wpList_pushAll rfl (.tmp 50) (.tmp 54) rfl wq.heap.size v (zs l) rfl HROW2.out (some ⟨wr.heap.size, 0, none⟩) 1 1 [(x : Int)] rfl ?hn ?hi ?hl ?hb ?hr)
                case hn => exact fun h => by cases h
                case hi => exact HNEW.out.ints' rfl (by omega)
                case hl => rw [HZL.out]; omega
                case hb => exact HB3.out.size
                case hr =>
                  intro v2 w4 hr2 hg2
                  have hb4 : Below wq.heap.size wq w4 := below_grown HB3.out hg2 HB3.out.size HROW2.out (Nat.le_refl _)
                  rw [HZm.out] at hr2
                  have HB4 := Lib.hid hb4
                  have HR4 := Lib.hid hr2
                  clear hb4 hr2 hg2
                  go_wp2
                  go_roundw
                  case rel => exact ⟨l ++ [x], v2, by rw [HLm.out]; omega, by rw [HLm.out]; go_num, rfl, HR4.out, by rw [HCOLm.out], by rw [HCOLm.out]; exact hU128, HR.out, HB4.out⟩
                  case measure => simp [intOf]; omega
              · have v0 : ¬ (0 : Int) < (V : Int) := by omega
                have HPRE2 := Lib.hid (HPRE.out (by omega))
                clear hst l1 l2 hP hU2 hm2 e1 hV hpre HPRE
                go_wp2_with fail
                refine K.out.mono ?_
                rintro e w3 ⟨rfl, rfl⟩
                go_wp2
                go_round
                case rel => exact ⟨m2, pre ++ [x], rfl, rfl, rfl, by omega, HPRE2.out⟩
                case measure => simp [intOf]; omega
            · obtain rfl : m = 0 := by omega
              exfalso
              obtain ⟨x, hx, hx2⟩ := HX2.out
              have h := hpre.out
              rw [bits_zero, List.append_nil] at h
              rw [h.1] at hx
              have := h.2 x hx
              omega
        · have el : l.length = n := by omega
          rw [el, Nat.sub_self] at hsome
          have HL := Lib.hid (HLEN.out l hsome.out.2.symm)
          obtain ⟨A4, c4, rfl, hi4, hcap⟩ := hrow.form3 (by rw [HZL.out]; omega)
          have HI4 := Lib.hid hi4
          have B4 := Lib.hid (below_step B2.out HB.out)
          have HCAP := Lib.hid hcap
          rw [HZL.out, el] at HI4 HCAP ⊢
          clear hi4 hrow hbel hsome hcap
          go_wp2
          go_ret2
          exact ⟨A4, c4, by rw [HL.out.2.1, HL.out.2.2, HZL.out, el]; rfl, by rw [HL.out.2.1, HZL.out, el]; exact HCAP.out, by rw [HL.out.2.1, HZL.out, el]; exact HI4.out, B4.out⟩
    · have HE : Hid (rwL n s = [] ∧ rwE n s = 10) := by
        unfold rwL rwE
        rw [if_neg (fun h => h.2 (by omega)), if_pos hf, if_pos (by omega)]
        exact ⟨rfl, rfl⟩
      have hq : ((ms : Int) == (n : Int)) = true := by rw [beq_iff_eq]; omega
      clear hs hf hS hbl ht
      go_enter Tryd.func45, Tryd.ntmps45
      go_wp2_with fail
      refine K84.out.mono ?_
      rintro e w1 ⟨rfl, hb⟩
      have HB := Lib.hid hb
      clear hb
      go_wp2
      go_ret2
      exact ⟨none, 0, by rw [HE.out.1, HE.out.2]; rfl, by rw [HE.out.1]; exact Nat.le_refl _, by rw [HE.out.1]; exact Ints.nil _ _, HB.out⟩
end Go.Proofs.YtiodednhadnekaaDoor
