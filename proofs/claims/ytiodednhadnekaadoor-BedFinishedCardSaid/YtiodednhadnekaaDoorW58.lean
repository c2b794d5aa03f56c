/- Walks: the specification's search for a mate. -/
import Derived.Test.YtiodednhadnekaaDoorW57
import Derived.StillTailTactics
import Derived.Deep.Cut
namespace Go.Proofs.YtiodednhadnekaaDoor
open Go.RowKit Go.Deep
attribute [local go_sem ↓] Go.wp_at_zero Go.wp_at_succ

theorem seen_okM {n : Nat} {b m : List (List Int)} {p x : Nat} (hb : IsFull n b) (h : PartM n b m p) (hp : p < n * n) (hx : x < n) : (seenL n b m p).getD ((cl n b p).toNat * n + x) false = ((List.range p).any fun i => cl n b i == cl n b p && cl n m i == (x : Int)) := by
  obtain ⟨p1, p2, _⟩ := idx_split hp
  have b2 := hb.lo _ _ p1 p2
  rw [seenL_get b m p (idx_lt (by unfold cl; omega) hx), Bool.eq_iff_iff, List.any_eq_true, List.any_eq_true]
  have key : ∀ i, i < p → ((codeF n b m i == (cl n b p).toNat * n + x) = true ↔ (cl n b i == cl n b p && cl n m i == (x : Int)) = true) := fun i hi => by
    obtain ⟨i1, i2, _⟩ := idx_split (show i < n * n by omega)
    have b1 := hb.lo _ _ i1 i2
    have m1 := h.done i hi
    simp only [beq_iff_eq, Bool.and_eq_true]
    constructor
    · intro e
      exact code_inj (y := cl n m i) (v := (x : Int)) b1.1 b2.1 m1 (by omega) e
    · rintro ⟨e1, e2⟩
      unfold codeF
      rw [e1, e2]; simp
  constructor
  · rintro ⟨i, hi, e⟩; exact ⟨i, hi, (key i (List.mem_range.1 hi)).1 e⟩
  · rintro ⟨i, hi, e⟩; exact ⟨i, hi, (key i (List.mem_range.1 hi)).2 e⟩
theorem seenL_put {n : Nat} {b m : List (List Int)} {p : Nat} (h : sqShape n m) (hp : p < n * n) (x : Nat) : seenL n b (gset m (p / n) (p % n) (x : Nat)) (p + 1) = (seenL n b m p).set ((cl n b p).toNat * n + x) true := by
  rw [seenL_succ]
  congr 1
  · unfold seenL
    refine List.map_congr_left fun k _ => ?_
    rw [Bool.eq_iff_iff, List.any_eq_true, List.any_eq_true]
    have e : ∀ i, i < p → codeF n b (gset m (p / n) (p % n) (x : Nat)) i = codeF n b m i := fun i hi => by
      unfold codeF
      rw [cl_gset h hp _ (show i < n * n by omega), if_neg (by omega)]
    constructor
    · rintro ⟨i, hi, h2⟩; exact ⟨i, hi, by rw [← e i (List.mem_range.1 hi)]; exact h2⟩
    · rintro ⟨i, hi, h2⟩; exact ⟨i, hi, by rw [e i (List.mem_range.1 hi)]; exact h2⟩
  · unfold codeF
    rw [cl_gset h hp _ hp, if_pos rfl]; simp
theorem set_back {U : List Bool} {k : Nat} (h : U.getD k false = false) : (U.set k true).set k false = U := by
  rw [List.set_set]
  apply List.ext_getElem (by simp)
  intro i h1 h2
  rw [List.getElem_set]
  split
  · rename_i e
    subst e
    simpa [List.getD_eq_getElem?_getD, h2] using h.symm
  · rfl
/-- What may be turned: the rows of the grid, and the truth values. -/
def OwnS (n : Nat) (gr : Nat → Nat) (gS : Nat) (i : Nat) : Prop := OwnG n gr i ∨ i = gS
theorem Kept.setS {n : Nat} {gr : Nat → Nat} {gS : Nat} {w w' : World} (h : Kept (fun _ i => OwnS n gr gS i) w w') {a : Addr} (ha : OwnS n gr gS a.block) (v : Value) : Kept (fun _ i => OwnS n gr gS i) w (w'.setCell a v) :=
  h.trans ⟨rfl, rfl, rfl, by simp [World.setCell], fun i _ hn => Below.heap_setCell w' a v i (fun e => hn (by rw [e]; exact ha)), fun _ _ h => h⟩
theorem Kept.drewS {n : Nat} {gr : Nat → Nat} {gS : Nat} {w w' : World} (h : Kept (fun _ i => OwnS n gr gS i) w w') (q : Nat) : Kept (fun _ i => OwnS n gr gS i) w (w'.drewN q) :=
  h.trans ⟨rfl, rfl, rfl, Nat.le_refl _, fun _ _ _ => rfl, fun _ _ h => h⟩
def MateR (gO gS n : Nat) (gr cr : Nat → Nat) (b m : List (List Int)) (p : Nat) (res : Option (List (List Int))) (e : Ending) (w' : World) : Prop :=
  match res with
  | some s => e = .returned (.bool true) ∧ GridM w' gO gr cr n s
  | none => e = .returned (.bool false) ∧ GridM w' gO gr cr n m ∧ OwnB w' gS (seenL n b m p)
section
variable (n cb cO gO gS : Nat) (gr cr : Nat → Nat) (b : List (List Int)) (w0 : World) (B : Option Addr)
def MateC (f p : Nat) : Prop := ∀ (m : List (List Int)) (w : World), p + f = n * n → PartM n b m p → GridM w gO gr cr n m → OwnB w gS (seenL n b m p) → Below w0.heap.size w0 w →
  Calls Tryd.prog 79 #[.slice B n cb, .slice (some ⟨gO, 0, none⟩) n cO, .slice (some ⟨gS, 0, none⟩) (n * n) (n * n), .int .i64 (p : Int)] w fun e w' => Kept (fun _ i => OwnS n gr gS i) w w' ∧ MateR gO gS n gr cr b m p (refF n b f p m) e w'
set_option maxRecDepth 100000 in
set_option maxHeartbeats 8000000 in
theorem f79_end (hn7 : n ≤ 7) (p : Nat) : MateC n cb cO gO gS gr cr b w0 B 0 p := by
  intro m w hp hP hg hs hbel
  obtain ⟨N, hN⟩ : ∃ N, N = n * n := ⟨_, rfl⟩
  have hN49 : N ≤ 49 := by rw [hN]; exact Nat.mul_le_mul hn7 hn7
  have eN : (n : Int) * (n : Int) = (N : Int) := by rw [hN]; simp
  have HR : Hid (refF n b 0 p m = some m) := rfl
  have HG := Lib.hid hg
  rw [← hN] at hp ⊢
  obtain rfl : p = N := by omega
  clear hP hs hbel hN hg hp
  go_enter Tryd.func79, Tryd.ntmps79
  go_wp2
  go_ret
  rw [HR.out]
  exact ⟨Kept.refl _ _, rfl, HG.out⟩
set_option maxRecDepth 100000 in
set_option maxHeartbeats 8000000 in
theorem f79_step (hn : 0 < n) (hn7 : n ≤ 7) (hcO : n ≤ cO) (hb : IsFull n b) (hs0 : Beds w0 B n cb b) (hgr : ∀ r, r < n → w0.heap.size ≤ gr r) (hgS : w0.heap.size ≤ gS) (hSO : gS ≠ gO) (hSr : ∀ r, r < n → gS ≠ gr r) (f p : Nat) (ih : MateC n cb cO gO gS gr cr b w0 B f (p + 1)) : MateC n cb cO gO gS gr cr b w0 B (f + 1) p := by
  intro m w hpf hP hg hs hbel
  have hpn : p < n * n := by omega
  obtain ⟨N, hN⟩ : ∃ N, N = n * n := ⟨_, rfl⟩
  have hN49 : N ≤ 49 := by rw [hN]; exact Nat.mul_le_mul hn7 hn7
  have eN : (n : Int) * (n : Int) = (N : Int) := by rw [hN]; simp
  obtain ⟨r, hr2⟩ : ∃ z, z = p / n := ⟨_, rfl⟩
  obtain ⟨c, hc2⟩ : ∃ z, z = p % n := ⟨_, rfl⟩
  obtain ⟨hr, hc, hsp⟩ := idx_split hpn
  rw [← hr2] at hr hsp
  rw [← hc2] at hc hsp
  have a0 : (0 : Int) ≤ (p : Int) := by omega
  have hd1 : (p : Int).tdiv (n : Int) = (r : Int) := by rw [Int.tdiv_eq_ediv_of_nonneg (by omega), hr2]; simp
  have hd2 : (p : Int) / (n : Int) = (r : Int) := by rw [hr2]; simp
  have hm1 : (p : Int).tmod (n : Int) = (c : Int) := by rw [Int.tmod_eq_emod_of_nonneg (by omega), hc2]; simp
  have hm2 : (p : Int) % (n : Int) = (c : Int) := by rw [hc2]; simp
  have n0 : (0 : Int) < (n : Int) := by omega
  have n7 : (n : Int) ≤ 7 := by omega
  have hne : ¬ ((n : Int) = 0) := by omega
  have hnz : ¬ (n = 0) := by omega
  have hpN : ((p : Int) == (N : Int)) = false := by simp; omega
  have hpN2 : (p == N) = false := by simp; omega
  have hwr : IntKind.i64.wrap (r : Int) = (r : Int) := IntWalk.i64_in _ (by omega)
  have hwc : IntKind.i64.wrap (c : Int) = (c : Int) := IntWalk.i64_in _ (by omega)
  have r0 : (0 : Int) ≤ (r : Int) := by omega
  have rn : (r : Int) < (n : Int) := by omega
  have c0 : (0 : Int) ≤ (c : Int) := by omega
  have cn : (c : Int) < (n : Int) := by omega
  have HP := Lib.hid hP
  have HG := Lib.hid hg
  have HS := Lib.hid hs
  have HBL := Lib.hid hbel
  have HB := Lib.hid hb
  have HBD := Lib.hid hs0
  have HGR := Lib.hid hgr
  have HSR := Lib.hid hSr
  have IH := Lib.hid ih
  have HN := Lib.hid hN
  have HRC : Hid (p / n = r ∧ p % n = c) := Lib.hid ⟨hr2.symm, hc2.symm⟩
  have hlv := hb.lo r c hr hc
  obtain ⟨V, hV⟩ := nat_of (gAt b r c) hlv.1
  have hVn : V < n := by omega
  have HV : Hid ((cl n b p).toNat = V) := Lib.hid (by unfold cl; rw [HRC.out.1, HRC.out.2, hV]; simp)
  have HV2 : Hid ((b.getD r []).getD c 0 = (V : Int)) := Lib.hid hV
  obtain ⟨Q, hQ⟩ : ∃ Q, Q = V * n := ⟨_, rfl⟩
  have hQ49 : Q ≤ 49 := by rw [hQ]; exact Nat.le_trans (Nat.mul_le_mul (show V ≤ 7 by omega) hn7) (by decide)
  have x1 : (V : Int) * (n : Int) = (Q : Int) := by rw [hQ]; simp
  have x2 : IntKind.i64.wrap (Q : Int) = (Q : Int) := IntWalk.i64_in _ (by omega)
  have HQ := Lib.hid hQ
  have HF : Hid (refF n b (f + 1) p m = (List.range n).findSome? fun x => if okM n b m p x = true then refF n b f (p + 1) (gset m (p / n) (p % n) (x : Nat)) else none) := rfl
  have HKB : Hid (∀ W, Kept (fun _ i => OwnS n gr gS i) w W → Below w0.heap.size w0 W) := Lib.hid fun W k => k.below HBL.out HBL.out.size (fun i hi => by
    rcases hi with ⟨q, hq, e⟩ | e
    · rw [e]; exact HGR.out q hq
    · rw [e]; exact hgS)
  rw [← hN] at hpn hpf ⊢
  clear hP hg hs hbel hb hs0 hgr hSr ih hN hr2 hc2 hlv hV hQ hsp
  go_enter Tryd.func79, Tryd.ntmps79
  go_wp2
  go_loopw [10] (fun xi wr => ∃ x : Nat, x ≤ n ∧ xi = .int .i64 (x : Int) ∧ Kept (fun _ i => OwnS n gr gS i) w wr ∧ GridM wr gO gr cr n m ∧ OwnB wr gS (seenL n b m p) ∧ Hid (∀ y, y < x → (if okM n b m p y = true then refF n b f (p + 1) (gset m (p / n) (p % n) (y : Nat)) else none) = none)) (fun xi _ => n - (intOf xi).toNat)
  case atStart => exact ⟨0, by omega, rfl, Kept.refl _ _, HG.out, HS.out, fun y hy => by omega⟩
  case round => as_aux_lemma =>
    obtain ⟨x, hx, rfl, hk, hg, hs, hno⟩ := hrel
    by_cases hxn : x < n
    · have hbel := HKB.out wr hk
      obtain ⟨gi, oi, eAi, Bi, di, hci, _, _, hIi⟩ := (HBD.out.below hbel).at_ hr
      subst eAi
      rw [HB.out.shape.2 r hr] at hci hIi
      obtain ⟨g1, p1, rfl, hc1⟩ := hIi.at_ hc
      rw [HV2.out] at hc1
      have x0 : (0 : Int) ≤ (x : Int) := by omega
      have xn : (x : Int) < (n : Int) := by omega
      obtain ⟨Z, hZ⟩ : ∃ Z, Z = Q + x := ⟨_, rfl⟩
      have x3 : IntKind.i64.wrap ((Q : Int) + (x : Int)) = (Z : Int) := (IntWalk.i64_in _ (by omega)).trans (by omega)
      have x4 : (Q : Int) + (x : Int) = (Z : Int) := by omega
      have hcode : (cl n b p).toNat * n + x = Z := by rw [HV.out, hZ, HQ.out]
      have hZN : Z < N := by rw [← hcode, HN.out, HV.out]; exact idx_lt hVn hxn
      have z0 : (0 : Int) ≤ (Z : Int) := by omega
      have zN : (Z : Int) < (N : Int) := by omega
      have q1 := hs.cell Z (by rw [seenL_len, ← HN.out]; exact hZN)
      have q2 := hs.frozen Z
      have hsn := seen_okM HB.out HP.out (by rw [← HN.out]; exact hpn) hxn
      rw [hcode] at hsn
      have HK := Lib.hid hk
      have HGr := Lib.hid hg
      have HSr := Lib.hid hs
      have HNO := Lib.hid hno.out
      have HOK : Hid (okM n b m p x = (!(seenL n b m p).getD Z false && freeB n m r c x)) := Lib.hid (by rw [hsn]; unfold okM; rw [HRC.out.1, HRC.out.2])
      have K52 : Hid (∀ W : World, W.heap = wr.heap → Calls Tryd.prog 52 #[.slice (some ⟨gO, 0, none⟩) n cO, .int .i64 (r : Int), .int .i64 (c : Int), .int .i64 (x : Int)] W fun e w' => e = .returned (.bool (freeB n m r c x)) ∧ w' = W) := Lib.hid fun W e => (f52_any _ n cO r c x m W ((HGr.out.heap e).beds HP.out.shape hn7 hcO) HP.out.shape hr hc).mono fun _ _ h => ⟨h.1, h.2.symm⟩
      have HU : Hid (seenL n b (gset m r c (x : Nat)) (p + 1) = (seenL n b m p).set Z true) := Lib.hid (by
        have h := seenL_put (b := b) HP.out.shape (by rw [← HN.out]; exact hpn) x
        rw [HRC.out.1, HRC.out.2, hcode] at h
        exact h)
      rw [HRC.out.1, HRC.out.2] at HNO
      have HNX : Hid ((if okM n b m p x = true then refF n b f (p + 1) (gset m r c (x : Nat)) else none) = none → ∀ y, y < x + 1 → (if okM n b m p y = true then refF n b f (p + 1) (gset m r c (y : Nat)) else none) = none) := Lib.hid fun h y hy => by
        by_cases e : y = x
        · rw [e]; exact h
        · exact HNO.out y (by omega)
      clear hk hg hs hno hIi hsn hcode hZ hbel
      cases hsz : (seenL n b m p).getD Z false
      · rw [hsz] at q1 HOK
        have HSZ := Lib.hid hsz
        cases hfr : freeB n m r c x
        · rw [hfr] at K52 HOK
          clear hsz hfr
          go_wp2
          go_quiet (fail)
          have q3 : (wr.drewN nq).cell? ⟨gS, Z, none⟩ = some (.bool false) := q1
          have EH : Hid ((wr.drewN nq).heap = wr.heap) := rfl
          have HK2 := Lib.hid (HK.out.drewS nq)
          have HG2 := Lib.hid (HGr.out.drewN nq)
          have HS2 := Lib.hid (HSr.out.drewN nq)
          generalize wr.drewN nq = wq at *
          clear q1 hci hc1
          go_wp2
          go_quiet ((go_at_call 52; exact Calls.quiet_of_same (K52.out _ EH.out)))
          have HN9 := Lib.hid (HNX.out (by rw [HOK.out]; rfl))
          go_wp2
          go_roundw
          case rel => exact ⟨x + 1, by omega, by go_num, HK2.out.drewS _, HG2.out.drewN _, HS2.out.drewN _, by rw [HRC.out.1, HRC.out.2]; exact HN9.out⟩
          case measure => simp [intOf]; omega
        · rw [hfr] at K52 HOK
          have HOK2 : Hid (okM n b m p x = true) := HOK.out
          clear hsz hfr
          go_wp2
          go_quiet (fail)
          have q3 : (wr.drewN nq).cell? ⟨gS, Z, none⟩ = some (.bool false) := q1
          have EH : Hid ((wr.drewN nq).heap = wr.heap) := rfl
          have HK2 := Lib.hid (HK.out.drewS nq)
          have HG2 := Lib.hid (HGr.out.drewN nq)
          have HS2 := Lib.hid (HSr.out.drewN nq)
          generalize wr.drewN nq = wq at *
          clear q1 hci hc1
          go_wp2
          go_quiet ((go_at_call 52; exact Calls.quiet_of_same (K52.out _ EH.out)))
          have q1 : (wq.drewN nq).cell? ⟨gS, Z, none⟩ = some (.bool false) := q3
          have q4 := (HS2.out.drewN nq).frozen Z
          have hk3 := HK2.out.drewS nq
          have hg3 := HG2.out.drewN nq
          have hs3 := HS2.out.drewN nq
          generalize wq.drewN nq = wq3 at *
          obtain ⟨w5, hw5⟩ : ∃ z, z = wq3.setCell ⟨gS, Z, none⟩ (.bool true) := ⟨_, rfl⟩
          have g5 : GridM w5 gO gr cr n m := by rw [hw5]; exact hg3.far (a := ⟨gS, Z, none⟩) hSO (fun q hq => HSR.out q hq) _
          have s5 : OwnB w5 gS ((seenL n b m p).set Z true) := by rw [hw5]; exact hs3.set_ Z true
          have k5 : Kept (fun _ i => OwnS n gr gS i) w w5 := by rw [hw5]; exact Kept.setS hk3 (a := ⟨gS, Z, none⟩) (.inr rfl) _
          have c1 := g5.hdr r hr
          have c2 := g5.val r c hr hc
          have f2 := g5.frozen hr c
          obtain ⟨w6, hw6⟩ : ∃ z, z = (w5.setCell ⟨gr r, c, none⟩ (.int .i64 (x : Int))).drew := ⟨_, rfl⟩
          have g6 : GridM w6 gO gr cr n (gset m r c (x : Nat)) := by rw [hw6]; exact (g5.set_ HP.out.shape hr hc (x : Int)).drewN 1
          have s6 : OwnB w6 gS ((seenL n b m p).set Z true) := by rw [hw6]; exact (s5.far (p := ⟨gr r, c, none⟩) (HSR.out r hr) _).drewN 1
          have k6 : Kept (fun _ i => OwnS n gr gS i) w w6 := by rw [hw6]; exact (Kept.setS k5 (a := ⟨gr r, c, none⟩) (.inl ⟨r, hr, rfl⟩) _).drewS 1
          have HNP := Lib.hid (HP.out.next (by rw [← HN.out]; exact hpn) hxn HOK2.out)
          rw [HRC.out.1, HRC.out.2] at HNP
          rw [← HU.out] at s6
          have HK6 := Lib.hid k6
          obtain ⟨R, hR⟩ : ∃ R, R = refF n b f (p + 1) (gset m r c (x : Nat)) := ⟨_, rfl⟩
          have K79 : Hid (Calls Tryd.prog 79 #[.slice (some ⟨gi, oi, none⟩) n cb, .slice (some ⟨gO, 0, none⟩) n cO, .slice (some ⟨gS, 0, none⟩) N N, .int .i64 ((p : Int) + 1)] w6 fun e w' => Kept (fun _ i => OwnS n gr gS i) w6 w' ∧ MateR gO gS n gr cr b (gset m r c (x : Nat)) (p + 1) R e w') := Lib.hid (by
            have h := IH.out (gset m r c (x : Nat)) w6 (by rw [← HN.out]; omega) HNP.out g6 s6 (HKB.out w6 k6)
            rw [← HN.out, ← hR] at h
            exact h)
          have HR2 : Hid ((if okM n b m p x = true then refF n b f (p + 1) (gset m r c (x : Nat)) else none) = R) := Lib.hid (by rw [HOK2.out, if_pos rfl, hR])
          have HM1 : Hid (gAt m r c = -1) := Lib.hid (by
            have h := HP.out.todo p (Nat.le_refl _) (by rw [← HN.out]; exact hpn)
            unfold cl at h
            rw [HRC.out.1, HRC.out.2] at h
            exact h)
          have HBACK : Hid (gset (gset m r c (x : Nat)) r c (-1) = m) := Lib.hid (by rw [gset_gset HP.out.shape hr hc, ← HM1.out, gset_same HP.out.shape hr hc])
          clear q3 hk3 hg3 hs3 g5 s5 k5 g6 s6 k6 hR
          go_upto_region 10 with (fail)
          rw [← hw5]
          clear hw5 q1 q4
          go_still_tail 11, (by kernel_rfl)
          go_upto_region 11 with (fail)
          rw [← hw6]
          clear hw6 c1 c2 f2
          go_wp2_with fail
          refine K79.out.mono ?_
          rintro e w7 ⟨hk7, hR7⟩
          cases R with
          | some t =>
            obtain ⟨rfl, hg7⟩ := hR7
            have HG7 := Lib.hid hg7
            have HK7 := Lib.hid (HK6.out.trans hk7)
            have HRES : Hid (refF n b (f + 1) p m = some t) := Lib.hid (by
              rw [HF.out]
              refine findSome_some (k := x) hxn ?_ (fun j hj => ?_)
              · rw [HRC.out.1, HRC.out.2]; exact HR2.out
              · rw [HRC.out.1, HRC.out.2]; exact HNO.out j hj)
            clear hk7 hg7
            go_wp2
            go_ret
            rw [HRES.out]
            exact ⟨HK7.out, rfl, HG7.out⟩
          | none =>
            obtain ⟨rfl, hg7, hs7⟩ := hR7
            have hN9 := Lib.hid (HNX.out HR2.out)
            rw [HU.out] at hs7
            have hk7' := HK6.out.trans hk7
            have c1 := hg7.hdr r hr
            have c2 := hg7.val r c hr hc
            have f2 := hg7.frozen hr c
            obtain ⟨w8, hw8⟩ : ∃ z, z = (w7.setCell ⟨gr r, c, none⟩ (.int .i64 (-1))).drew := ⟨_, rfl⟩
            have g8 : GridM w8 gO gr cr n m := by
              have h := (hg7.set_ (gset_shape HP.out.shape r c (x : Nat)) hr hc (-1)).drewN 1
              rw [HBACK.out] at h
              rw [hw8]; exact h
            have s8 : OwnB w8 gS ((seenL n b m p).set Z true) := by rw [hw8]; exact (hs7.far (p := ⟨gr r, c, none⟩) (HSR.out r hr) _).drewN 1
            have k8 : Kept (fun _ i => OwnS n gr gS i) w w8 := by rw [hw8]; exact (Kept.setS hk7' (a := ⟨gr r, c, none⟩) (.inl ⟨r, hr, rfl⟩) _).drewS 1
            have q5 := s8.cell Z (by rw [List.length_set, seenL_len, ← HN.out]; exact hZN)
            have q6 := s8.frozen Z
            have HG9 := Lib.hid (g8.far (a := ⟨gS, Z, none⟩) hSO (fun q hq => HSR.out q hq) (.bool false))
            have HS9 := Lib.hid (s8.set_ Z false)
            rw [set_back HSZ.out] at HS9
            have HK9 := Lib.hid (Kept.setS k8 (a := ⟨gS, Z, none⟩) (.inr rfl) (.bool false))
            generalize gAt (gset m r c (x : Nat)) r c = u1 at *
            generalize ((seenL n b m p).set Z true).getD Z false = u2 at *
            clear hk7 hg7 hs7 hk7' g8 s8 k8
            go_upto_region 13 with (fail)
            go_still_tail 10, (by kernel_rfl)
            go_upto_region 14 with (fail)
            rw [← hw8]
            clear hw8 c1 c2 f2
            go_wp2
            go_roundw
            case rel => exact ⟨x + 1, by omega, by go_num, HK9.out, HG9.out, HS9.out, by rw [HRC.out.1, HRC.out.2]; exact hN9.out⟩
            case measure => simp [intOf]; omega
      · rw [hsz] at q1 HOK
        have HN9 := Lib.hid (HNX.out (by rw [HOK.out]; rfl))
        clear hsz
        go_wp2
        go_quiet (fail)
        have q3 : (wr.drewN nq).cell? ⟨gS, Z, none⟩ = some (.bool true) := q1
        have HK2 := Lib.hid (HK.out.drewS nq)
        have HG2 := Lib.hid (HGr.out.drewN nq)
        have HS2 := Lib.hid (HSr.out.drewN nq)
        generalize wr.drewN nq = wq at *
        clear q1 hci hc1
        go_wp2
        go_quiet (fail)
        go_wp2
        go_roundw
        case rel => exact ⟨x + 1, by omega, by go_num, HK2.out.drewS _, HG2.out.drewN _, HS2.out.drewN _, by rw [HRC.out.1, HRC.out.2]; exact HN9.out⟩
        case measure => simp [intOf]; omega
    · obtain rfl : x = n := by omega
      have HRES : Hid (refF x b (f + 1) p m = none) := Lib.hid (by
        rw [HF.out, List.findSome?_eq_none_iff]
        intro y hy
        exact hno.out y (List.mem_range.1 hy))
      have HK := Lib.hid hk
      have HGr := Lib.hid hg
      have HSr := Lib.hid hs
      clear hk hg hs hno
      go_wp2
      go_ret
      rw [HRES.out]
      exact ⟨HK.out, rfl, HGr.out, HSr.out⟩
theorem f79_any (hn : 0 < n) (hn7 : n ≤ 7) (hcO : n ≤ cO) (hb : IsFull n b) (hs0 : Beds w0 B n cb b) (hgr : ∀ r, r < n → w0.heap.size ≤ gr r) (hgS : w0.heap.size ≤ gS) (hSO : gS ≠ gO) (hSr : ∀ r, r < n → gS ≠ gr r) : ∀ (f p : Nat), MateC n cb cO gO gS gr cr b w0 B f p
  | 0, p => f79_end n cb cO gO gS gr cr b w0 B hn7 p
  | f + 1, p => f79_step n cb cO gO gS gr cr b w0 B hn hn7 hcO hb hs0 hgr hgS hSO hSr f p (f79_any hn hn7 hcO hb hs0 hgr hgS hSO hSr f (p + 1))
end
end Go.Proofs.YtiodednhadnekaaDoor
