/- Walks: opened and ways. -/
import Derived.Test.YtiodednhadnekaaDoorW69
import Derived.StillTailTactics
import Derived.Deep.Cut
namespace Go.Proofs.YtiodednhadnekaaDoor
open Go.RowKit Go.Deep
attribute [local go_sem ↓] Go.wp_at_zero Go.wp_at_succ

theorem low_and : ∀ m : Nat, m < 128 → 0 < m → bits .and .i64 (m : Int) (-(m : Int)) = ((2 ^ tzN m : Nat) : Int) := by decide +kernel
theorem or_lt7 {a b : Nat} (ha : a < 128) (hb : b < 128) : a ||| b < 128 := Nat.or_lt_two_pow (n := 7) ha hb
section
variable (n : Nat) (op : Nat → Nat) (A : Option Addr) (c : Nat)
def WayC (k : Nat) : Prop := ∀ (j used : Nat) (w : World), j + k = n → used < 128 → Ints w A n (zs ((List.range n).map op)) →
  Calls Tryd.prog 86 #[.int .i64 (n : Int), .slice A n c, .int .i64 (j : Int), .int .i64 (used : Int)] w fun e w' => e = .returned (.int .i64 (wayF n op k used : Int)) ∧ w = w'
set_option maxRecDepth 100000 in
set_option maxHeartbeats 2000000 in
theorem f86_end (hn7 : n ≤ 7) : WayC n op A c 0 := by
  intro j used w hj hu hi
  obtain rfl : j = n := by omega
  have HW : Hid (wayF j op 0 used = 1) := rfl
  have hq : ((j : Int) == (j : Int)) = true := by simp
  clear hi hj
  go_enter Tryd.func86, Tryd.ntmps86
  go_wp2
  go_ret
  exact ⟨by rw [HW.out]; rfl, rfl⟩
set_option maxRecDepth 100000 in
set_option maxHeartbeats 2000000 in
theorem f86_step (hn7 : n ≤ 7) (hop : ∀ j, j < n → op j < 128) (k : Nat) (ih : WayC n op A c k) : WayC n op A c (k + 1) := by
  intro j used w hj hu hi
  have hjn : j < n := by omega
  obtain ⟨b, o, rfl, hc⟩ := hi.at_ hjn
  have e : (zs ((List.range n).map op)).getD j 0 = (op j : Int) := by rw [zs_get]; simp [List.getD_eq_getElem?_getD, hjn]
  rw [e] at hc
  have HW : Hid (wayF n op (k + 1) used = ((bitsOf (nd (op j) used)).map fun x => wayF n op k (used ||| 2 ^ x)).sum) := Lib.hid (by
    show ((bitsOf (nd (op (n - (k + 1))) used)).map fun x => wayF n op k (used ||| 2 ^ x)).sum = _
    rw [show n - (k + 1) = j by omega])
  have HLE : Hid (wayF n op (k + 1) used ≤ 823543) := Lib.hid (by
    have h1 := wayF_le n op bitsOf_len (k + 1) used
    have h2 : 7 ^ (k + 1) ≤ 7 ^ 7 := Nat.pow_le_pow_right (by decide) (by omega)
    have h3 : 7 ^ 7 = 823543 := by decide
    omega)
  have hoj := hop j hjn
  have hnd : nd (op j) used < 128 := Nat.lt_of_le_of_lt (nd_le _ _) hoj
  have hb1 : bits .andNot .i64 (op j : Int) (used : Int) = ((nd (op j) used : Nat) : Int) := bits_nd _ _ (by omega) (by omega)
  have hjq : ((j : Int) == (n : Int)) = false := by simp; omega
  have hjq2 : (j == n) = false := by simp; omega
  have j0 : (0 : Int) ≤ (j : Int) := by omega
  have jn : (j : Int) < (n : Int) := by omega
  have HI := Lib.hid hi
  have IH : Hid (∀ u : Nat, u < 128 → Calls Tryd.prog 86 #[.int .i64 (n : Int), .slice (some ⟨b, o, none⟩) n c, .int .i64 ((j : Int) + 1), .int .i64 (u : Int)] w fun e w' => e = .returned (.int .i64 (wayF n op k u : Int)) ∧ w = w') := Lib.hid fun u hu => ih (j + 1) u w (by omega) hu hi
  obtain ⟨M, hM⟩ : ∃ z, z = nd (op j) used := ⟨_, rfl⟩
  obtain ⟨T, hT⟩ : ∃ z, z = wayF n op (k + 1) used := ⟨_, rfl⟩
  rw [← hM] at hb1 hnd HW
  rw [← hT] at HW HLE ⊢
  generalize op j = oj at *
  clear hi ih hop hM hT hj e
  go_enter Tryd.func86, Tryd.ntmps86
  go_wp2
  go_loop [9, 10] (fun si mi => ∃ S m : Nat, si = .int .i64 (S : Int) ∧ mi = .int .i64 (m : Int) ∧ m < 128 ∧ Hid (S + ((bitsOf m).map fun x => wayF n op k (used ||| 2 ^ x)).sum = T)) (fun _ mi => (intOf mi).toNat)
  case atStart => exact ⟨0, M, rfl, rfl, hnd, by rw [Nat.zero_add]; exact HW.out.symm⟩
  case round => as_aux_lemma =>
    obtain ⟨S, m, rfl, rfl, hm, hS⟩ := hrel
    by_cases hm0 : 0 < m
    · have hst := bits_step m hm hm0
      obtain ⟨l1, l2, l3⟩ := low_bit m hm hm0
      obtain ⟨P, hP⟩ : ∃ z, z = 2 ^ tzN m := ⟨_, rfl⟩
      have hP128 : P < 128 := by rw [hP]; exact Nat.lt_of_lt_of_le (Nat.pow_lt_pow_right (by decide) l2) (by decide)
      have a1 := low_and m hm hm0
      rw [← hP] at a1
      obtain ⟨U, hU⟩ : ∃ z, z = used ||| P := ⟨_, rfl⟩
      have hU128 : U < 128 := by rw [hU]; exact or_lt7 hu hP128
      have a2 : bits .or .i64 (used : Int) (P : Int) = (U : Int) := by rw [hU]; exact bits_or_nat _ _ (by omega) (by omega)
      obtain ⟨m2, hm2⟩ : ∃ z, z = m &&& (m - 1) := ⟨_, rfl⟩
      have e1 : (m : Int) - 1 = ((m - 1 : Nat) : Int) := by omega
      have a3 : bits .and .i64 (m : Int) ((m : Int) - 1) = (m2 : Int) := by rw [e1, hm2]; exact bits_and_nat _ _ (by omega) (by omega)
      have a4 : IntKind.i64.wrap (-(m : Int)) = -(m : Int) := IntWalk.i64_in _ (by omega)
      have K := Lib.hid (IH.out U hU128)
      obtain ⟨V, hV⟩ : ∃ z, z = wayF n op k U := ⟨_, rfl⟩
      rw [← hV] at K
      have HS2 : Hid (S + V + ((bitsOf m2).map fun x => wayF n op k (used ||| 2 ^ x)).sum = T) := Lib.hid (by
        have h := hS.out
        rw [hst, List.map_cons, List.sum_cons, ← hP, ← hU, ← hV, ← hm2] at h
        omega)
      have hSV : S + V ≤ 823543 := by have h1 := HS2.out; have h2 := HLE.out; omega
      rw [← hm2] at l3
      have m0 : (0 : Int) < (m : Int) := by omega
      have hq : decide (0 < m) = true := decide_eq_true hm0
      clear hst l1 l2 hP hU hm2 e1 hV hS
      go_wp2_with fail
      refine K.out.mono ?_
      rintro e w1 ⟨rfl, rfl⟩
      go_wp2
      go_round
      case rel => exact ⟨S + V, m2, by go_num, rfl, by omega, HS2.out⟩
      case measure => simp [intOf]; omega
    · obtain rfl : m = 0 := by omega
      have HT : Hid (S = T) := Lib.hid (by have h := hS.out; rw [bits_zero] at h; simpa using h)
      clear hS
      go_wp2
      go_ret
      exact ⟨by rw [← HT.out]; rfl, rfl⟩
theorem f86_any (hn7 : n ≤ 7) (hop : ∀ j, j < n → op j < 128) : ∀ k, WayC n op A c k
  | 0 => f86_end n op A c hn7
  | k + 1 => f86_step n op A c hn7 hop k (f86_any hn7 hop k)
end
/-! ### opened -/
def opL (n : Nat) (s : List (List Int)) (R C : Nat) : List Int := (List.range n).map fun c => ((opM n s c (if c < C then R + 1 else R) : Nat) : Int)
theorem opL_len (n : Nat) (s : List (List Int)) (R C : Nat) : (opL n s R C).length = n := by simp [opL]
theorem opL_get {n : Nat} (s : List (List Int)) (R C : Nat) {j : Nat} (hj : j < n) : (opL n s R C).getD j 0 = ((opM n s j (if j < C then R + 1 else R) : Nat) : Int) := by simp [opL, List.getD_eq_getElem?_getD, hj]
theorem opL_row (n : Nat) (s : List (List Int)) (R : Nat) : opL n s R n = opL n s (R + 1) 0 := by
  unfold opL
  refine List.map_congr_left fun c hc => ?_
  rw [if_pos (List.mem_range.1 hc), if_neg (by omega)]
theorem opL_zero (n : Nat) (s : List (List Int)) : opL n s 0 0 = List.replicate n ((2 ^ n - 1 : Nat) : Int) := by
  apply List.ext_getElem (by simp [opL])
  intro i _ _
  simp [opL, opM]
theorem opL_next {n : Nat} {s : List (List Int)} {R C : Nat} : opL n s R (C + 1) = (opL n s R C).set C ((nd (opM n s C R) (2 ^ (gAt s R C).toNat) : Nat) : Int) := by
  apply List.ext_getElem (by simp [opL])
  intro i h1 h2
  rw [List.getElem_set]
  simp only [opL, List.getElem_map, List.getElem_range]
  by_cases e : C = i
  · subst e
    rw [if_pos rfl, if_pos (by omega)]; rfl
  · rw [if_neg e]
    by_cases h : i < C
    · rw [if_pos h, if_pos (by omega)]
    · rw [if_neg h, if_neg (by omega)]
theorem opL_end (n : Nat) (s : List (List Int)) : opL n s s.length 0 = zs ((List.range n).map (opS n s)) := by
  unfold opL zs
  rw [List.map_map]
  refine List.map_congr_left fun c hc => ?_
  rw [if_neg (by omega)]; rfl
theorem opM_lt {n : Nat} (hn : n ≤ 7) (s : List (List Int)) (c R : Nat) : opM n s c R < 128 := by
  have h1 := opM_le n s c R
  have h2 : 2 ^ n ≤ 2 ^ 7 := Nat.pow_le_pow_right (by decide) hn
  have h3 : 2 ^ 7 = 128 := by decide
  have h4 := Nat.two_pow_pos n
  omega
set_option maxRecDepth 100000 in
set_option maxHeartbeats 8000000 in
/-- bed.opened -/
theorem f85_any (n : Nat) (A : Option Addr) (m c : Nat) (s : List (List Int)) (w : World) (hs : Beds w A m c s) (h : StartP n s) :
    Calls Tryd.prog 85 #[.int .i64 (n : Int), .slice A m c] w fun e w' => ∃ g, e = .returned (.slice (some ⟨g, 0, none⟩) n n) ∧ Own w' g (zs ((List.range n).map (opS n s))) ∧ w.heap.size ≤ g ∧ Below w.heap.size w w' := by
  have hsl := hs.len
  have hn1 := h.n1
  have hn7 := h.n7
  have hmn : m ≤ n := by have := h.len; omega
  have HS := Lib.hid hs
  have HST := Lib.hid h
  obtain ⟨N, hN, hshl⟩ := shl_one n (by omega)
  have hN128 : N ≤ 128 := by rw [hN]; exact Nat.le_trans (Nat.pow_le_pow_right (by decide) hn7) (by decide)
  have hN1 : 1 ≤ N := by rw [hN]; exact Nat.two_pow_pos n
  have e1 : (N : Int) - 1 = ((N - 1 : Nat) : Int) := by omega
  have HN := Lib.hid hN
  obtain ⟨N1, hN1'⟩ : ∃ z, z = N - 1 := ⟨_, rfl⟩
  rw [← hN1'] at e1
  have HL0 : Hid (opL n s 0 0 = List.replicate n (N1 : Int)) := Lib.hid (by rw [opL_zero, hN1', hN])
  have HEND : Hid (opL n s m 0 = zs ((List.range n).map (opS n s))) := Lib.hid (by rw [← hsl]; exact opL_end n s)
  have K63 := Lib.hid (f63_one w.heap.size n (N1 : Int) hn1 hn7 (w.alloc (.cells #[.int .i64 (N1 : Int)] 3)) (cell_new w _ 3 0))
  have B0 := Lib.hid (below_alloc w (.cells #[.int .i64 (N1 : Int)] 3))
  clear hs h hN hN1' hsl
  go_enter Tryd.func85, Tryd.ntmps85
  go_wp2_with fail
  refine K63.out.mono ?_
  rintro e w1 ⟨g, rfl, ho, hge, hb⟩
  have O1 : Hid (Own w1 g (opL n s 0 0)) := Lib.hid (by rw [HL0.out]; exact ho)
  have hgw : w.heap.size ≤ g := Nat.le_trans B0.out.size hge
  have B1 := Lib.hid (B0.out.trans (hb.mono B0.out.size))
  clear ho hge hb K63 B0
  go_wp2
  go_loopw [18] (fun ri wr => ∃ r : Nat, r ≤ m ∧ ri = .int .i64 (r : Int) ∧ Own wr g (opL n s r 0) ∧ Below w.heap.size w wr) (fun ri _ => m - (intOf ri).toNat)
  case atStart => exact ⟨0, by omega, rfl, O1.out, B1.out⟩
  case round => as_aux_lemma =>
    obtain ⟨r, hr, rfl, ho, hbel⟩ := hrel
    by_cases hrm : r < m
    · have hrl : r < s.length := by rw [HS.out.len]; exact hrm
      obtain ⟨gi, oi, rfl, Bi, di, hci, _, _, hIi⟩ := (HS.out.below hbel).at_ hrm
      rw [HST.out.row r hrl] at hci hIi
      have HII : Hid (∀ W, Below w.heap.size w W → Ints W Bi n (s.getD r [])) := Lib.hid fun W h => by
        obtain ⟨g9, o9, e9, B9, d9, hc9, _, _, hI9⟩ := HS.out.at_ hrm
        injection e9 with e9
        injection e9 with e1 e2
        subst e1 e2
        rw [HST.out.row r hrl] at hc9 hI9
        have h1 := (hbel.cell (lt_of_cell hc9)).trans hc9
        rw [hci] at h1
        injection h1 with h1
        injection h1 with h1
        subst h1
        exact hI9.below h
      obtain ⟨b1, p1, rfl, _⟩ := hIi.at_ (show 0 < n by omega)
      have HO := Lib.hid ho
      have HBL := Lib.hid hbel
      have r0 : (0 : Int) ≤ (r : Int) := by omega
      have rm : (r : Int) < (m : Int) := by omega
      clear ho hbel hIi
      go_wp2
      go_loopw [24] (fun ci wr => ∃ k : Nat, k ≤ n ∧ ci = .int .i64 (k : Int) ∧ Own wr g (opL n s r k) ∧ Below w.heap.size w wr) (fun ci _ => n - (intOf ci).toNat)
      case atStart => exact ⟨0, by omega, rfl, HO.out, HBL.out⟩
      case round => as_aux_lemma =>
        obtain ⟨k, hk, rfl, ho, hbel⟩ := hrel
        by_cases hkn : k < n
        · obtain ⟨b2, p2, e2, hc2⟩ := (HII.out _ hbel).at_ hkn
          injection e2 with e2
          injection e2 with e1 e2
          subst e1 e2
          have hlo := HST.out.lo r k hrl hkn
          obtain ⟨X, hX⟩ := nat_of (gAt s r k) hlo.1
          rw [show (s.getD r []).getD k 0 = (X : Int) from hX] at hc2
          obtain ⟨P, hP, hsh⟩ := shl_one X (by omega)
          have hP128 : P ≤ 128 := by rw [hP]; exact Nat.le_trans (Nat.pow_le_pow_right (by decide) (show X ≤ 7 by omega)) (by decide)
          have u1 := ho.cell k (by rw [opL_len]; exact hkn)
          have u2 := ho.frozen k
          rw [opL_get s r k hkn, if_neg (by omega)] at u1
          have hO128 := opM_lt hn7 s k r
          have hb1 : bits .andNot .i64 (opM n s k r : Int) (P : Int) = ((nd (opM n s k r) P : Nat) : Int) := bits_nd _ _ (by omega) (by omega)
          have HO2 : Hid (∀ q, Own ((wr.setCell ⟨g, k, none⟩ (.int .i64 ((nd (opM n s k r) P : Nat) : Int))).drewN q) g (opL n s r (k + 1))) := Lib.hid fun q => by
            have h := ho.set_ k ((nd (opM n s k r) P : Nat) : Int)
            rw [opL_next, hX, show ((X : Int)).toNat = X from by simp, ← hP]
            exact h
          have HB2 : Hid (∀ q, Below w.heap.size w ((wr.setCell ⟨g, k, none⟩ (.int .i64 ((nd (opM n s k r) P : Nat) : Int))).drewN q)) := Lib.hid fun q => below_drewN (hbel.setCell (by exact hgw) _) q
          generalize nd (opM n s k r) P = V at *
          generalize opM n s k r = U at *
          have k0 : (0 : Int) ≤ (k : Int) := by omega
          have kn : (k : Int) < (n : Int) := by omega
          have X0 : (0 : Int) ≤ (X : Int) := by omega
          have X7 : (X : Int) ≤ 7 := by omega
          clear ho hbel hlo hX hP
          go_wp2
          go_still_tail 8, (by kernel_rfl)
          go_wp2
          go_roundw
          case rel => exact ⟨k + 1, by omega, by go_num, by first | exact HO2.out 1 | exact HO2.out 0, by first | exact HB2.out 1 | exact HB2.out 0⟩
          case measure => simp [intOf]; omega
        · obtain rfl : k = n := by omega
          rw [opL_row] at ho
          have HO2 := Lib.hid ho
          have HB2 := Lib.hid hbel
          clear ho hbel
          go_wp2
          go_roundw
          case rel => exact ⟨r + 1, by omega, by go_num, HO2.out, HB2.out⟩
          case measure => simp [intOf]; omega
    · obtain rfl : r = m := by omega
      rw [HEND.out] at ho
      have HO2 := Lib.hid ho
      have HB2 := Lib.hid hbel
      clear ho hbel
      go_wp2
      go_ret
      exact ⟨g, rfl, HO2.out, hgw, HB2.out⟩
end Go.Proofs.YtiodednhadnekaaDoor
