/- Plain laws: pairs of rows and of columns with just two crops, counted in two orders. Walks: the specification's Cyclic. Walks: Squares. Walks: the specification's Squares. Plain laws: the bed with rows and columns exchanged, and with rows and crops exchanged. Walks: the specification's Turned. Walks: Turned. Walks: BedTurns. -/
import Derived.Test.YtiodednhadnekaaDoorA3
import Derived.StillTailTactics
import Derived.Deep.Cut
import Derived.Deep.DeepCutAuto
namespace Go.Proofs.YtiodednhadnekaaDoor

theorem sumN_add (f g : Nat → Nat) : ∀ k, sumN (fun i => f i + g i) k = sumN f k + sumN g k
  | 0 => rfl
  | k + 1 => by
    show sumN (fun i => f i + g i) k + (f k + g k) = (sumN f k + f k) + (sumN g k + g k)
    rw [sumN_add f g k]; omega
/-- The sum over i below n and j below i, and the sum over j and the i between j and n. -/
theorem sumN_tri (f : Nat → Nat → Nat) : ∀ n, sumN (fun i => sumN (fun j => f i j) i) n = sumN (fun j => sumN (fun i => if j < i then f i j else 0) n) n
  | 0 => rfl
  | n + 1 => by
    show sumN (fun i => sumN (fun j => f i j) i) n + sumN (fun j => f n j) n = sumN (fun j => sumN (fun i => if j < i then f i j else 0) (n + 1)) n + sumN (fun i => if n < i then f i n else 0) (n + 1)
    have h1 : sumN (fun i => if n < i then f i n else 0) (n + 1) = 0 := sumN_zero fun i hi => by rw [if_neg (by omega)]
    have h2 : sumN (fun j => sumN (fun i => if j < i then f i j else 0) (n + 1)) n = sumN (fun j => sumN (fun i => if j < i then f i j else 0) n + f n j) n := sumN_congr fun j hj => by
      show sumN (fun i => if j < i then f i j else 0) n + (if j < n then f n j else 0) = _
      rw [if_pos hj]
    have h3 : sumN (fun j => sumN (fun i => if j < i then f i j else 0) n + f n j) n = sumN (fun j => sumN (fun i => if j < i then f i j else 0) n) n + sumN (fun j => f n j) n := sumN_add _ _ n
    rw [sumN_tri f n, h1, h2, h3, Nat.add_zero]
/-- Is it a pair of rows and of columns with just two crops? -/
def sqAt (b : List (List Int)) (i j c d : Nat) : Nat := if gAt b i c = gAt b j d ∧ gAt b i d = gAt b j c then 1 else 0
def sqN (b : List (List Int)) (n : Nat) : Nat := sumN (fun i => sumN (fun j => sumN (fun c => sumN (fun d => sqAt b i j c d) c) n) i) n
/-- The specification's order: r below s, c below d. -/
def sqR (b : List (List Int)) (n : Nat) : Nat := sumN (fun r => sumN (fun s => if r < s then sumN (fun c => sumN (fun d => if c < d then sqAt b r s c d else 0) n) n else 0) n) n
theorem sqAt_turn (b : List (List Int)) (i j c d : Nat) : sqAt b i j c d = sqAt b j i d c := by
  unfold sqAt
  by_cases h : gAt b i c = gAt b j d ∧ gAt b i d = gAt b j c
  · rw [if_pos h, if_pos ⟨h.1.symm, h.2.symm⟩]
  · rw [if_neg h, if_neg fun h2 => h ⟨h2.1.symm, h2.2.symm⟩]
theorem sqN_sqR (b : List (List Int)) (n : Nat) : sqN b n = sqR b n := by
  unfold sqN sqR
  rw [sumN_tri]
  refine sumN_congr fun r _ => sumN_congr fun s _ => ?_
  by_cases h : r < s
  · rw [if_pos h, if_pos h, sumN_tri]
    exact sumN_congr fun c _ => sumN_congr fun d _ => by
      by_cases h2 : c < d
      · rw [if_pos h2, if_pos h2, sqAt_turn]
      · rw [if_neg h2, if_neg h2]
  · rw [if_neg h, if_neg h]
end Go.Proofs.YtiodednhadnekaaDoor

namespace Go.Proofs.YtiodednhadnekaaDoor
open Go.RowKit Go.Deep
attribute [local go_sem ↓] Go.wp_at_zero Go.wp_at_succ

theorem f40_no (n s : Int) (w : World) (h : ¬ cycOk n s) :
    Calls Tryd.prog 40 #[.int .i64 n, .int .i64 s] w fun e w' => e = .returned (.tuple #[.slice none 0 0, .int .i64 2]) ∧ ∃ q, w' = w.drewN q := by
  by_cases h1 : n < 1
  · go_enter Tryd.func40, Tryd.ntmps40
    go_wp2
    go_ret2
    exact ⟨rfl, 0, rfl⟩
  by_cases h2 : 7 < n
  · go_enter Tryd.func40, Tryd.ntmps40
    go_wp2
    go_ret2
    exact ⟨rfl, 0, rfl⟩
  by_cases h3 : s < 1
  · go_enter Tryd.func40, Tryd.ntmps40
    go_wp2
    go_ret2
    exact ⟨rfl, 0, rfl⟩
  by_cases h4 : n < s
  · go_enter Tryd.func40, Tryd.ntmps40
    go_wp2
    go_ret2
    exact ⟨rfl, 0, rfl⟩
  obtain ⟨N, rfl⟩ := nat_of n (by omega)
  obtain ⟨S, rfl⟩ := nat_of s (by omega)
  have K := Lib.hid (f39_any N S w (by omega) (by omega))
  have hg : Nat.gcd N S ≠ 1 := fun e => h ⟨by omega, by omega, by omega, by omega, by rw [Nat.gcd_comm]; simpa using e⟩
  generalize Nat.gcd N S = G at *
  have hq : ((G : Int) != 1) = true := by simp; omega
  clear h hg
  go_enter Tryd.func40, Tryd.ntmps40
  go_wp2_with fail
  refine K.out.mono ?_
  rintro e w1 ⟨rfl, q, rfl⟩
  go_wp2
  go_ret2
  exact ⟨rfl, _, rfl⟩
set_option maxRecDepth 100000 in
set_option maxHeartbeats 8000000 in
theorem f40_yes (n s : Nat) (w : World) (h : cycOk n s) :
    Calls Tryd.prog 40 #[.int .i64 (n : Int), .int .i64 (s : Int)] w fun e w' => ∃ A c, e = .returned (.tuple #[.slice A n c, .int .i64 0]) ∧ Beds w' A n c (cycL n s) ∧ Below w.heap.size w w' := by
  obtain ⟨h1, h2, h3, h4, h5⟩ := h
  simp only [Int.toNat_natCast] at h5
  have h1 : 1 ≤ n := by omega
  have h2 : n ≤ 7 := by omega
  have h3 : 1 ≤ s := by omega
  have h4 : s ≤ n := by omega
  have K : Hid (Calls Tryd.prog 39 #[.int .i64 (n : Int), .int .i64 (s : Int)] w fun e w' => e = .returned (.int .i64 1) ∧ ∃ q, w' = w.drewN q) := Lib.hid (by
    have h := f39_any n s w (by omega) (by omega)
    rw [Nat.gcd_comm, h5] at h
    exact h)
  have hd4 : decide (n < s) = false := decide_eq_false (by omega)
  have hnz : ¬ (n = 0) := by omega
  have hne : ¬ ((n : Int) = 0) := by omega
  have HCL : Hid ((cycL n s).length = n) := by show (cycL n s).length = n; simp [cycL]
  clear h5
  go_enter Tryd.func40, Tryd.ntmps40
  go_wp2_with fail
  refine K.out.mono ?_
  rintro e w1 ⟨rfl, q, rfl⟩
  have B1 := Lib.hid (below_drewN (Below.refl w.heap.size w) q)
  generalize w.drewN q = w1 at *
  go_wp2
  go_loopw [7, 6] (fun ri u wr => ∃ (r : Nat) (v : Value), r ≤ n ∧ ri = .int .i64 (r : Int) ∧ v = u ∧ BRow wr w.heap.size v ((cycL n s).take r) ∧ Below w.heap.size w wr) (fun ri _ _ => n - (intOf ri).toNat)
  case atStart => exact ⟨0, _, by omega, rfl, rfl, BRow.nil _ _, B1.out⟩
  case round => as_aux_lemma =>
    obtain ⟨r, v, hr, rfl, rfl, hbr, hbel⟩ := hrel
    by_cases hrn : r < n
    · obtain ⟨vs, hv1, hv2, hv3⟩ := hbr
      have HN : Hid ((cycL n s).take (r + 1) = (cycL n s).take r ++ [cycR n s r n]) := Lib.hid (by rw [take_next [] (by rw [HCL.out]; exact hrn), cycL_get hrn])
      have HSZ : Hid (w.heap.size ≤ wr.heap.size) := hbel.size
      have HBL := Lib.hid hbel
      have hvl : Hid (vs.length ≤ 1000000) := by
        show vs.length ≤ 1000000
        rw [hv2, List.length_take]; omega
      have HV : Hid (∀ W, Below wr.heap.size wr W → RowV W w.heap.size v vs) := Lib.hid fun W h => hv1.below h
      have HP := Lib.hid (fun (w1 w' : World) (u v' : Value) (hb : Below wr.heap.size wr w1) (hu : Row w1 w.heap.size u (cycR n s r n)) (hg : w1.grownBy w' v.ownBlock) (hr : RowV w' w.heap.size v' (vs ++ [u])) => BRow.push hv1 hv2 hv3 hb hu hg hr)
      have r0 : (0 : Int) ≤ (r : Int) := by omega
      have rn : (r : Int) < (n : Int) := by omega
      obtain ⟨P, hP⟩ : ∃ P, P = r * s := ⟨_, rfl⟩
      have hP49 : P ≤ 49 := by rw [hP]; exact Nat.le_trans (Nat.mul_le_mul (show r ≤ 7 by omega) (show s ≤ 7 by omega)) (by decide)
      have e1 : (r : Int) * (s : Int) = (P : Int) := by rw [hP]; simp
      have HPP := Lib.hid hP
      clear hv1 hv2 hv3 hbel hP
      go_wp2
      go_loopw [9, 8] (fun ci u wi => ∃ (c : Nat) (v2 : Value), c ≤ n ∧ ci = .int .i64 (c : Int) ∧ v2 = u ∧ Row wi wr.heap.size v2 (cycR n s r c) ∧ Below wr.heap.size wr wi) (fun ci _ _ => n - (intOf ci).toNat)
      case atStart => exact ⟨0, _, by omega, rfl, rfl, Row.nil _ _, Below.refl _ _⟩
      case round => as_aux_lemma =>
        obtain ⟨c, v2, hc, rfl, rfl, hrow, hbi⟩ := hrel
        have HROW := Lib.hid hrow
        have HBI := Lib.hid hbi
        by_cases hcn : c < n
        · have c0 : (0 : Int) ≤ (c : Int) := by omega
          have cn : (c : Int) < (n : Int) := by omega
          obtain ⟨Z, hZ⟩ : ∃ Z, Z = P + c := ⟨_, rfl⟩
          obtain ⟨y, hy⟩ : ∃ y, y = (P + c) % n := ⟨_, rfl⟩
          have eP : IntKind.i64.wrap (P : Int) = (P : Int) := IntWalk.i64_in _ (by omega)
          have e2 : IntKind.i64.wrap ((P : Int) + (c : Int)) = (Z : Int) := (IntWalk.i64_in _ (by omega)).trans (by omega)
          have e22 : (P : Int) + (c : Int) = (Z : Int) := by omega
          have e3 : (Z : Int).tmod (n : Int) = (y : Int) := by rw [hy, hZ, Int.tmod_eq_emod_of_nonneg (by omega)]; simp
          have e4 : (Z : Int) % (n : Int) = (y : Int) := by rw [hy, hZ]; simp
          have eZ : IntKind.i64.wrap (Z : Int) = (Z : Int) := IntWalk.i64_in _ (by omega)
          have HSU : Hid (cycR n s r c ++ [(y : Int)] = cycR n s r (c + 1)) := Lib.hid (by rw [hy, HPP.out]; exact cycR_succ n s r c)
          have HNEW : Hid (Own (wr.alloc (.cells #[.int .i64 (y : Int)] 3)) wr.heap.size [(y : Int)]) := heap_alloc_new wr _
          have hll := cycR_len n s r c
          clear hrow hbi hy hZ
          go_wp2_with (at_builtin; refine wpList_pushAll rfl (.tmp 41) (.tmp 49) rfl _ v2 (cycR n s r c) rfl (HROW.out.alloc _) (some ⟨wr.heap.size, 0, none⟩) 1 1 [(y : Int)] rfl ?hn ?hi ?hl ?hb ?hr)
          case hn => exact fun h => by cases h
          case hi => exact HNEW.out.ints' rfl (by omega)
          case hl => rw [hll]; omega
          case hb => exact Nat.le_trans HBI.out.size (below_alloc wr _).size
          case hr =>
            intro v3 w3 hr3 hg3
            rw [HSU.out] at hr3
            have HR3 := Lib.hid hr3
            have HB3 := Lib.hid (below_grown (HBI.out.alloc HBI.out.size (.cells #[.int .i64 (y : Int)] 3)) hg3 (Nat.le_trans HBI.out.size (below_alloc wr _).size) (HROW.out.alloc _) (Nat.le_refl _))
            clear hr3 hg3
            go_wp2
            go_roundw
            case rel => exact ⟨c + 1, _, by omega, by go_num, rfl, HR3.out, HB3.out⟩
            case measure => simp [intOf]; omega
        · obtain rfl : c = n := by omega
          have hll := cycR_len c s r c
          obtain ⟨A1, c1, rfl, _⟩ := hrow.form3 (by rw [hll]; omega)
          rw [hll] at HROW
          have hcn3 := cell_new wr #[.slice A1 c c1] 29 0
          have HBA := Lib.hid (hbi.alloc hbi.size (.cells #[.slice A1 c c1] 29))
          have HRA : Hid (Row (wr.alloc (.cells #[.slice A1 c c1] 29)) w.heap.size (.slice A1 c c1) (cycR c s r c)) := Lib.hid ((HROW.out.mono HSZ.out).alloc _)
          rw [hll]
          clear hrow hbi
          go_wp2_with (at_builtin; refine wpList_pushV rfl (.tmp 51) (.tmp 53) rfl w.heap.size v vs rfl (HV.out _ HBA.out) wr.heap.size 1 A1 c c1 rfl hcn3 hvl.out ?hb ?hr)
          case hb => exact Nat.le_trans HSZ.out HBA.out.size
          case hr =>
            intro v3 w3 hr3 hg3 _
            have HB3 := Lib.hid (HP.out _ _ _ _ HBA.out HRA.out hg3 hr3)
            have HBL3 := Lib.hid (below_grownV (HBL.out.trans (HBA.out.mono HSZ.out)) hg3 (Nat.le_trans HSZ.out HBA.out.size) (HV.out _ HBA.out) (Nat.le_refl _))
            clear hr3 hg3 hcn3
            go_wp2
            go_roundw
            case rel => exact ⟨r + 1, _, by omega, by go_num, rfl, by rw [HN.out]; exact HB3.out, HBL3.out⟩
            case measure => simp [intOf]; omega
    · obtain rfl : r = n := by omega
      rw [List.take_of_length_le (by rw [HCL.out]; omega)] at hbr
      obtain ⟨A2, c2, hv2, hN⟩ := hbr.bedsN (by rw [HCL.out]; omega) (fun j => by
        rcases Nat.lt_or_ge j r with h | h
        · rw [cycL_get h, cycR_len]; omega
        · rw [List.getD_eq_getElem?_getD, List.getElem?_eq_none (by rw [HCL.out]; exact h)]; simp)
      rw [HCL.out] at hv2 hN
      subst hv2
      have HN := Lib.hid hN.beds
      have HB := Lib.hid hbel
      clear hN hbr hbel
      go_wp2
      go_ret2
      exact ⟨_, _, rfl, HN.out, HB.out⟩
end Go.Proofs.YtiodednhadnekaaDoor

namespace Go.Proofs.YtiodednhadnekaaDoor
open Go.RowKit Go.Deep
attribute [local go_sem ↓] Go.wp_at_zero Go.wp_at_succ

def sqC (b : List (List Int)) : Int := if fullB b = true then (sqN b b.length : Int) else 0
theorem sumN_s (f : Nat → Nat) (k : Nat) : sumN f (k + 1) = sumN f k + f k := rfl
set_option maxRecDepth 100000 in
set_option maxHeartbeats 8000000 in
/-- bed.Squares -/
theorem f41_any (A : Option Addr) (n c : Nat) (b : List (List Int)) (w : World) (hs : Beds w A n c b) :
    Calls Tryd.prog 41 #[.slice A n c] w fun e w' => e = .returned (.tuple #[.int .i64 (sqC b), .int .i64 (trE b)]) ∧ Below w.heap.size w w' := by
  have K60 := Lib.hid (f60_any A n c b w hs)
  cases hf : fullB b
  · rw [hf] at K60
    have HE : Hid (sqC b = 0 ∧ trE b = 2) := by unfold sqC trE; rw [hf]; exact ⟨rfl, rfl⟩
    clear hs hf
    go_enter Tryd.func41, Tryd.ntmps41
    go_wp2_with fail
    refine K60.out.mono ?_
    rintro e w1 ⟨rfl, hb⟩
    have HB := Lib.hid hb
    clear hb
    go_wp2
    go_ret2
    exact ⟨by rw [HE.out.1, HE.out.2]; rfl, HB.out⟩
  · rw [hf] at K60
    obtain ⟨hn1, hn7, hfull⟩ := fullB_iff.1 hf
    have hbl := hs.len
    have hcap := hs.cap
    rw [hbl] at hn1 hn7 hfull
    have HE : Hid (sqC b = (sqN b n : Int) ∧ trE b = 0) := by unfold sqC trE; rw [hf, hbl]; exact ⟨rfl, rfl⟩
    have HROW : Hid (∀ i, i < n → (b.getD i []).length = n) := hfull.shape.2
    have HS := Lib.hid hs
    have HQ : Hid (sqN b n = sumN (fun i => sumN (fun j => sumN (fun c => sumN (fun d => sqAt b i j c d) c) n) i) n) := rfl
    obtain ⟨g0, o0, hA0, _⟩ := hs.at_ hn1
    subst hA0
    clear hf hs hfull
    go_enter Tryd.func41, Tryd.ntmps41
    go_wp2_with fail
    refine K60.out.mono ?_
    rintro e w1 ⟨rfl, hb⟩
    have HSB := Lib.hid (HS.out.below hb)
    have HB := Lib.hid hb
    clear hb K60 HS
    go_wp2
    go_loopw [16, 4] (fun ii mi wi => ∃ i M : Nat, i ≤ n ∧ ii = .int .i64 (i : Int) ∧ mi = .int .i64 (M : Int) ∧ M ≤ 343 * i ∧ Hid (M = sumN (fun i => sumN (fun j => sumN (fun c => sumN (fun d => sqAt b i j c d) c) n) i) i) ∧ ∃ q, wi = w1.drewN q) (fun ii _ _ => n - (intOf ii).toNat)
    case atStart => exact ⟨0, 0, by omega, rfl, rfl, by omega, rfl, 0, rfl⟩
    case round => as_aux_lemma =>
      obtain ⟨i, M, hi, rfl, rfl, hM, hMS, q, rfl⟩ := hrel
      by_cases hin : i < n
      · obtain ⟨gi, oi, eAi, Bi, di, hci, _, _, hIi⟩ := HSB.out.at_ hin
        injection eAi with eAi
        injection eAi with e1 e2
        subst e1 e2
        rw [HROW.out i hin] at hci hIi
        have HIi := Lib.hid hIi
        have i0 : (0 : Int) ≤ (i : Int) := by omega
        have inn : (i : Int) < (n : Int) := by omega
        have icc : (i : Int) ≤ (c : Int) := by omega
        have HMS := Lib.hid hMS.out
        clear hIi hMS
        go_wp2
        go_loopw [25, 4] (fun ji mi wi => ∃ j M' : Nat, j ≤ i ∧ ji = .int .i64 (j : Int) ∧ mi = .int .i64 (M' : Int) ∧ M' ≤ 343 * i + 49 * j ∧ Hid (M' = M + sumN (fun j => sumN (fun c => sumN (fun d => sqAt b i j c d) c) n) j) ∧ ∃ q, wi = w1.drewN q) (fun ji _ _ => i - (intOf ji).toNat)
        case atStart => exact ⟨0, M, by omega, rfl, rfl, by omega, rfl, _, rfl⟩
        case round => as_aux_lemma =>
          obtain ⟨j, M', hj, rfl, rfl, hM', hMS', q, rfl⟩ := hrel
          by_cases hji : j < i
          · obtain ⟨gj, oj, eAj, Bj, dj, hcj, _, _, hIj⟩ := HSB.out.at_ (show j < n by omega)
            injection eAj with eAj
            injection eAj with e1 e2
            subst e1 e2
            rw [HROW.out j (by omega)] at hcj hIj
            have HIj := Lib.hid hIj
            have j0 : (0 : Int) ≤ (j : Int) := by omega
            have jn : (j : Int) < (i : Int) := by omega
            have HMS2 := Lib.hid hMS'.out
            clear hIj hMS'
            go_wp2
            go_loopw [31, 4] (fun ci mi wi => ∃ x N : Nat, x ≤ n ∧ ci = .int .i64 (x : Int) ∧ mi = .int .i64 (N : Int) ∧ N ≤ 343 * i + 49 * j + 7 * x ∧ Hid (N = M' + sumN (fun c => sumN (fun d => sqAt b i j c d) c) x) ∧ ∃ q, wi = w1.drewN q) (fun ci _ _ => n - (intOf ci).toNat)
            case atStart => exact ⟨0, M', by omega, rfl, rfl, by omega, rfl, _, rfl⟩
            case round => as_aux_lemma =>
              obtain ⟨x, N, hx, rfl, rfl, hN, hNS, q, rfl⟩ := hrel
              by_cases hxn : x < n
              · have HNS := Lib.hid hNS.out
                have x0 : (0 : Int) ≤ (x : Int) := by omega
                have xn : (x : Int) < (n : Int) := by omega
                clear hNS
                go_wp2
                go_loopw [35, 4] (fun di mi wi => ∃ y L : Nat, y ≤ x ∧ di = .int .i64 (y : Int) ∧ mi = .int .i64 (L : Int) ∧ L ≤ 343 * i + 49 * j + 7 * x + y ∧ Hid (L = N + sumN (fun d => sqAt b i j x d) y) ∧ ∃ q, wi = w1.drewN q) (fun di _ _ => x - (intOf di).toNat)
                case atStart => exact ⟨0, N, by omega, rfl, rfl, by omega, rfl, _, rfl⟩
                case round => as_aux_lemma =>
                  obtain ⟨y, L, hy, rfl, rfl, hL, hLS, q, rfl⟩ := hrel
                  by_cases hyx : y < x
                  · obtain ⟨g1, p1, eB1, hc1⟩ := HIi.out.at_ hxn
                    obtain ⟨g2, p2, eB2, hc2⟩ := HIi.out.at_ (show y < n by omega)
                    rw [eB1] at eB2
                    injection eB2 with eB2
                    injection eB2 with e1 e2
                    subst e1 e2 eB1
                    obtain ⟨g3, p3, eB3, hc3⟩ := HIj.out.at_ hxn
                    obtain ⟨g4, p4, eB4, hc4⟩ := HIj.out.at_ (show y < n by omega)
                    rw [eB3] at eB4
                    injection eB4 with eB4
                    injection eB4 with e1 e2
                    subst e1 e2 eB3
                    have y0 : (0 : Int) ≤ (y : Int) := by omega
                    have yn : (y : Int) < (n : Int) := by omega
                    have yx : (y : Int) < (x : Int) := by omega
                    have HSQ : Hid (sqAt b i j x y = if (b.getD i []).getD x 0 = (b.getD j []).getD y 0 ∧ (b.getD i []).getD y 0 = (b.getD j []).getD x 0 then 1 else 0) := rfl
                    have HNX : Hid (∀ z, sqAt b i j x y = z → L + z = N + sumN (fun d => sqAt b i j x d) (y + 1)) := Lib.hid fun z hz => by rw [sumN_s, hz, ← Nat.add_assoc, ← hLS.out]
                    generalize (b.getD i []).getD x 0 = u1 at *
                    generalize (b.getD j []).getD y 0 = v1 at *
                    generalize (b.getD i []).getD y 0 = u2 at *
                    generalize (b.getD j []).getD x 0 = v2 at *
                    clear hLS
                    by_cases hu : u1 = v1
                    · have hq1 : (u1 == v1) = true := by simpa using hu
                      by_cases hv : u2 = v2
                      · have hq2 : (u2 == v2) = true := by simpa using hv
                        have HE2 := Lib.hid (HNX.out 1 (by rw [HSQ.out, if_pos ⟨hu, hv⟩]))
                        clear hu hv HSQ HNX
                        go_wp2
                        go_quiet (fail)
                        go_wp2
                        go_roundw
                        case rel => exact ⟨y + 1, L + 1, by omega, by go_num, by go_num, by omega, HE2.out, by first | exact ⟨_, rfl⟩ | exact ⟨_, World.drewN_drewN _ _ _⟩⟩
                        case measure => simp [intOf]; omega
                      · have hq2 : (u2 == v2) = false := by simpa using hv
                        have HE2 := Lib.hid (HNX.out 0 (by rw [HSQ.out, if_neg fun h => hv h.2]))
                        clear hu hv HSQ HNX
                        go_wp2
                        go_quiet (fail)
                        go_wp2
                        go_roundw
                        case rel => exact ⟨y + 1, L, by omega, by go_num, rfl, by omega, HE2.out, by first | exact ⟨_, rfl⟩ | exact ⟨_, World.drewN_drewN _ _ _⟩⟩
                        case measure => simp [intOf]; omega
                    · have hq1 : (u1 == v1) = false := by simpa using hu
                      have HE2 := Lib.hid (HNX.out 0 (by rw [HSQ.out, if_neg fun h => hu h.1]))
                      clear hu HSQ HNX
                      go_wp2
                      go_quiet (fail)
                      go_wp2
                      go_roundw
                      case rel => exact ⟨y + 1, L, by omega, by go_num, rfl, by omega, HE2.out, by first | exact ⟨_, rfl⟩ | exact ⟨_, World.drewN_drewN _ _ _⟩⟩
                      case measure => simp [intOf]; omega
                  · obtain rfl : y = x := by omega
                    have HE2 : Hid (L = M' + sumN (fun c => sumN (fun d => sqAt b i j c d) c) (y + 1)) := Lib.hid (by rw [sumN_s, ← Nat.add_assoc, ← HNS.out]; exact hLS.out)
                    clear hLS
                    go_wp2
                    go_roundw
                    case rel => exact ⟨y + 1, L, by omega, by go_num, rfl, by omega, HE2.out, _, rfl⟩
                    case measure => simp [intOf]; omega
              · obtain rfl : x = n := by omega
                have HE2 : Hid (N = M + sumN (fun j => sumN (fun c => sumN (fun d => sqAt b i j c d) c) x) (j + 1)) := Lib.hid (by rw [sumN_s, ← Nat.add_assoc, ← HMS2.out]; exact hNS.out)
                clear hNS
                go_wp2
                go_roundw
                case rel => exact ⟨j + 1, N, by omega, by go_num, rfl, by omega, HE2.out, _, rfl⟩
                case measure => simp [intOf]; omega
          · obtain rfl : j = i := by omega
            have HN : Hid (M' = sumN (fun i => sumN (fun j => sumN (fun c => sumN (fun d => sqAt b i j c d) c) n) i) (j + 1)) := Lib.hid (by rw [sumN_s, ← HMS.out]; exact hMS'.out)
            clear hMS'
            go_wp2
            go_roundw
            case rel => exact ⟨j + 1, M', by omega, by go_num, rfl, by omega, HN.out, _, rfl⟩
            case measure => simp [intOf]; omega
      · obtain rfl : i = n := by omega
        have HF : Hid ((M : Int) = sqC b) := Lib.hid (by rw [HE.out.1, HQ.out, hMS.out])
        clear hMS
        go_wp2
        go_ret2
        exact ⟨by rw [← HF.out, HE.out.2]; rfl, below_drewN HB.out _⟩
end Go.Proofs.YtiodednhadnekaaDoor

namespace Go.Proofs.YtiodednhadnekaaDoor
open Go.RowKit Go.Deep
attribute [local go_sem ↓] Go.wp_at_zero Go.wp_at_succ

set_option maxRecDepth 100000 in
set_option maxHeartbeats 8000000 in
/-- dibberref01.Squares -/
theorem f42_any (A : Option Addr) (n c : Nat) (b : List (List Int)) (w : World) (hs : Beds w A n c b) :
    Calls Tryd.prog 42 #[.slice A n c] w fun e w' => e = .returned (.tuple #[.int .i64 (sqC b), .int .i64 (trE b)]) ∧ Below w.heap.size w w' := by
  have K21 := Lib.hid (f21_any A n c b w hs)
  cases hf : fullB b
  · rw [hf] at K21
    have HE : Hid (sqC b = 0 ∧ trE b = 2) := by unfold sqC trE; rw [hf]; exact ⟨rfl, rfl⟩
    clear hs hf
    go_enter Tryd.func42, Tryd.ntmps42
    go_wp2_with fail
    refine K21.out.mono ?_
    rintro e w1 ⟨rfl, rfl⟩
    go_wp2
    go_ret2
    exact ⟨by rw [HE.out.1, HE.out.2]; rfl, Below.refl _ _⟩
  · rw [hf] at K21
    obtain ⟨hn1, hn7, hfull⟩ := fullB_iff.1 hf
    have hbl := hs.len
    have hcap := hs.cap
    rw [hbl] at hn1 hn7 hfull
    have HE : Hid (sqC b = (sqR b n : Int) ∧ trE b = 0) := by unfold sqC trE; rw [hf, hbl, sqN_sqR]; exact ⟨rfl, rfl⟩
    have HROW : Hid (∀ i, i < n → (b.getD i []).length = n) := hfull.shape.2
    have HQ : Hid (sqR b n = sumN (fun r => sumN (fun s => if r < s then sumN (fun c => sumN (fun d => if c < d then sqAt b r s c d else 0) n) n else 0) n) n) := rfl
    have HSB := Lib.hid hs
    obtain ⟨g0, o0, hA0, _⟩ := hs.at_ hn1
    subst hA0
    clear hf hs hfull
    go_enter Tryd.func42, Tryd.ntmps42
    go_wp2_with fail
    refine K21.out.mono ?_
    rintro e w1 ⟨rfl, rfl⟩
    clear K21
    go_wp2
    go_loopw [5, 4] (fun ii mi wi => ∃ i M : Nat, i ≤ n ∧ ii = .int .i64 (i : Int) ∧ mi = .int .i64 (M : Int) ∧ M ≤ 343 * i ∧ Hid (M = sumN (fun r => sumN (fun s => if r < s then sumN (fun c => sumN (fun d => if c < d then sqAt b r s c d else 0) n) n else 0) n) i) ∧ ∃ q, wi = w.drewN q) (fun ii _ _ => n - (intOf ii).toNat)
    case atStart => exact ⟨0, 0, by omega, rfl, rfl, by omega, rfl, 0, rfl⟩
    case round => as_aux_lemma =>
      obtain ⟨i, M, hi, rfl, rfl, hM, hMS, q, rfl⟩ := hrel
      by_cases hin : i < n
      · obtain ⟨gi, oi, eAi, Bi, di, hci, _, _, hIi⟩ := HSB.out.at_ hin
        injection eAi with eAi
        injection eAi with e1 e2
        subst e1 e2
        rw [HROW.out i hin] at hci hIi
        have HIi := Lib.hid hIi
        have i0 : (0 : Int) ≤ (i : Int) := by omega
        have inn : (i : Int) < (n : Int) := by omega
        have HMS := Lib.hid hMS.out
        clear hIi hMS
        go_wp2
        go_loopw [6, 4] (fun ji mi wi => ∃ j M' : Nat, i < j ∧ j ≤ n ∧ ji = .int .i64 (j : Int) ∧ mi = .int .i64 (M' : Int) ∧ M' ≤ 343 * i + 49 * j ∧ Hid (M' = M + sumN (fun s => if i < s then sumN (fun c => sumN (fun d => if c < d then sqAt b i s c d else 0) n) n else 0) j) ∧ ∃ q, wi = w.drewN q) (fun ji _ _ => n - (intOf ji).toNat)
        case atStart => exact ⟨i + 1, M, by omega, by omega, by go_num, rfl, by omega, by
          show M = M + _
          rw [sumN_zero fun s hs => by rw [if_neg (by omega)]]; rfl, _, rfl⟩
        case round => as_aux_lemma =>
          obtain ⟨j, M', hij, hj, rfl, rfl, hM', hMS', q, rfl⟩ := hrel
          by_cases hjn : j < n
          · obtain ⟨gj, oj, eAj, Bj, dj, hcj, _, _, hIj⟩ := HSB.out.at_ hjn
            injection eAj with eAj
            injection eAj with e1 e2
            subst e1 e2
            rw [HROW.out j hjn] at hcj hIj
            have HIj := Lib.hid hIj
            have j0 : (0 : Int) ≤ (j : Int) := by omega
            have jn : (j : Int) < (n : Int) := by omega
            have HMS2 := Lib.hid hMS'.out
            clear hIj hMS'
            go_wp2
            go_loopw [7, 4] (fun ci mi wi => ∃ x N : Nat, x ≤ n ∧ ci = .int .i64 (x : Int) ∧ mi = .int .i64 (N : Int) ∧ N ≤ 343 * i + 49 * j + 7 * x ∧ Hid (N = M' + sumN (fun c => sumN (fun d => if c < d then sqAt b i j c d else 0) n) x) ∧ ∃ q, wi = w.drewN q) (fun ci _ _ => n - (intOf ci).toNat)
            case atStart => exact ⟨0, M', by omega, rfl, rfl, by omega, rfl, _, rfl⟩
            case round => as_aux_lemma =>
              obtain ⟨x, N, hx, rfl, rfl, hN, hNS, q, rfl⟩ := hrel
              by_cases hxn : x < n
              · have HNS := Lib.hid hNS.out
                have x0 : (0 : Int) ≤ (x : Int) := by omega
                have xn : (x : Int) < (n : Int) := by omega
                clear hNS
                go_wp2
                go_loopw [8, 4] (fun di mi wi => ∃ y L : Nat, x < y ∧ y ≤ n ∧ di = .int .i64 (y : Int) ∧ mi = .int .i64 (L : Int) ∧ L ≤ 343 * i + 49 * j + 7 * x + y ∧ Hid (L = N + sumN (fun d => if x < d then sqAt b i j x d else 0) y) ∧ ∃ q, wi = w.drewN q) (fun di _ _ => n - (intOf di).toNat)
                case atStart => exact ⟨x + 1, N, by omega, by omega, by go_num, rfl, by omega, by
                  show N = N + _
                  rw [sumN_zero fun s hs => by rw [if_neg (by omega)]]; rfl, _, rfl⟩
                case round => as_aux_lemma =>
                  obtain ⟨y, L, hxy, hy, rfl, rfl, hL, hLS, q, rfl⟩ := hrel
                  by_cases hyn : y < n
                  · obtain ⟨g1, p1, eB1, hc1⟩ := HIi.out.at_ hxn
                    obtain ⟨g2, p2, eB2, hc2⟩ := HIi.out.at_ hyn
                    rw [eB1] at eB2
                    injection eB2 with eB2
                    injection eB2 with e1 e2
                    subst e1 e2 eB1
                    obtain ⟨g3, p3, eB3, hc3⟩ := HIj.out.at_ hxn
                    obtain ⟨g4, p4, eB4, hc4⟩ := HIj.out.at_ hyn
                    rw [eB3] at eB4
                    injection eB4 with eB4
                    injection eB4 with e1 e2
                    subst e1 e2 eB3
                    have y0 : (0 : Int) ≤ (y : Int) := by omega
                    have yn : (y : Int) < (n : Int) := by omega
                    have HSQ : Hid (sqAt b i j x y = if (b.getD i []).getD x 0 = (b.getD j []).getD y 0 ∧ (b.getD i []).getD y 0 = (b.getD j []).getD x 0 then 1 else 0) := rfl
                    have HNX : Hid (∀ z, sqAt b i j x y = z → L + z = N + sumN (fun d => if x < d then sqAt b i j x d else 0) (y + 1)) := Lib.hid fun z hz => by rw [sumN_s, if_pos hxy, hz, ← Nat.add_assoc, ← hLS.out]
                    generalize (b.getD i []).getD x 0 = u1 at *
                    generalize (b.getD j []).getD y 0 = v1 at *
                    generalize (b.getD i []).getD y 0 = u2 at *
                    generalize (b.getD j []).getD x 0 = v2 at *
                    clear hLS
                    by_cases hu : u1 = v1
                    · have hq1 : (u1 == v1) = true := by simpa using hu
                      by_cases hv : u2 = v2
                      · have hq2 : (u2 == v2) = true := by simpa using hv
                        have HE2 := Lib.hid (HNX.out 1 (by rw [HSQ.out, if_pos ⟨hu, hv⟩]))
                        clear hu hv HSQ HNX
                        go_wp2
                        go_quiet (fail)
                        go_wp2
                        go_roundw
                        case rel => exact ⟨y + 1, L + 1, by omega, by omega, by go_num, by go_num, by omega, HE2.out, by first | exact ⟨_, rfl⟩ | exact ⟨_, World.drewN_drewN _ _ _⟩⟩
                        case measure => simp [intOf]; omega
                      · have hq2 : (u2 == v2) = false := by simpa using hv
                        have HE2 := Lib.hid (HNX.out 0 (by rw [HSQ.out, if_neg fun h => hv h.2]))
                        clear hu hv HSQ HNX
                        go_wp2
                        go_quiet (fail)
                        go_wp2
                        go_roundw
                        case rel => exact ⟨y + 1, L, by omega, by omega, by go_num, rfl, by omega, HE2.out, by first | exact ⟨_, rfl⟩ | exact ⟨_, World.drewN_drewN _ _ _⟩⟩
                        case measure => simp [intOf]; omega
                    · have hq1 : (u1 == v1) = false := by simpa using hu
                      have HE2 := Lib.hid (HNX.out 0 (by rw [HSQ.out, if_neg fun h => hu h.1]))
                      clear hu HSQ HNX
                      go_wp2
                      go_quiet (fail)
                      go_wp2
                      go_roundw
                      case rel => exact ⟨y + 1, L, by omega, by omega, by go_num, rfl, by omega, HE2.out, by first | exact ⟨_, rfl⟩ | exact ⟨_, World.drewN_drewN _ _ _⟩⟩
                      case measure => simp [intOf]; omega
                  · obtain rfl : y = n := by omega
                    have HE2 : Hid (L = M' + sumN (fun c => sumN (fun d => if c < d then sqAt b i j c d else 0) y) (x + 1)) := Lib.hid (by rw [sumN_s, ← Nat.add_assoc, ← HNS.out]; exact hLS.out)
                    clear hLS
                    go_wp2
                    go_roundw
                    case rel => exact ⟨x + 1, L, by omega, by go_num, rfl, by omega, HE2.out, _, rfl⟩
                    case measure => simp [intOf]; omega
              · obtain rfl : x = n := by omega
                have HE2 : Hid (N = M + sumN (fun s => if i < s then sumN (fun c => sumN (fun d => if c < d then sqAt b i s c d else 0) x) x else 0) (j + 1)) := Lib.hid (by rw [sumN_s, if_pos hij, ← Nat.add_assoc, ← HMS2.out]; exact hNS.out)
                clear hNS
                go_wp2
                go_roundw
                case rel => exact ⟨j + 1, N, by omega, by omega, by go_num, rfl, by omega, HE2.out, _, rfl⟩
                case measure => simp [intOf]; omega
          · obtain rfl : j = n := by omega
            have HN : Hid (M' = sumN (fun r => sumN (fun s => if r < s then sumN (fun c => sumN (fun d => if c < d then sqAt b r s c d else 0) j) j else 0) j) (i + 1)) := Lib.hid (by rw [sumN_s, ← HMS.out]; exact hMS'.out)
            clear hMS'
            go_wp2
            go_roundw
            case rel => exact ⟨i + 1, M', by omega, by go_num, rfl, by omega, HN.out, _, rfl⟩
            case measure => simp [intOf]; omega
      · obtain rfl : i = n := by omega
        have HF : Hid ((M : Int) = sqC b) := Lib.hid (by rw [HE.out.1, HQ.out, hMS.out])
        clear hMS
        go_wp2
        go_ret2
        exact ⟨by rw [← HF.out, HE.out.2]; rfl, below_drewN (Below.refl _ _) _⟩
end Go.Proofs.YtiodednhadnekaaDoor

namespace Go.Proofs.YtiodednhadnekaaDoor

/-- Rows and columns exchanged. -/
def tcL (b : List (List Int)) (n : Nat) : List (List Int) := gridL n fun c r => gAt b r c
/-- Where a row has a crop. -/
def posN (b : List (List Int)) (n p : Nat) (x : Int) : Nat := ((List.range n).find? fun a => gAt b p a == x).getD 0
/-- Rows and crops exchanged. -/
def txL (b : List (List Int)) (n : Nat) : List (List Int) := gridL n fun x r => (posN b n r x : Int)
theorem gAt_gridL {n r c : Nat} (o : Nat → Nat → Int) (hr : r < n) (hc : c < n) : gAt (gridL n o) r c = o r c := by
  unfold gAt; rw [gridL_get o hr, lineM_get o r hc]
theorem posN_is {b : List (List Int)} {n p a : Nat} (hb : IsFull n b) (hp : p < n) (ha : a < n) : posN b n p (gAt b p a) = a := by
  unfold posN
  rw [find_some ha (by simp) fun j hj => ?_]
  · rfl
  · simp only [beq_eq_false_iff_ne]
    exact hb.once.1 p j a hp (by omega) ha (by omega) (hb.lo p j hp (by omega)).1
theorem posN_lt {b : List (List Int)} {n p x : Nat} (hb : IsFull n b) (hp : p < n) (hx : x < n) : posN b n p x < n ∧ gAt b p (posN b n p x) = x := by
  obtain ⟨c, hc, e⟩ := hb.row_has hp x hx
  have := posN_is hb hp hc
  rw [e] at this
  rw [this]
  exact ⟨hc, e⟩
theorem tcL_at {b : List (List Int)} {n r c : Nat} (hr : r < n) (hc : c < n) : gAt (tcL b n) c r = gAt b r c := gAt_gridL _ hc hr
theorem txL_at {b : List (List Int)} {n r x : Nat} (hr : r < n) (hx : x < n) : gAt (txL b n) x r = (posN b n r x : Int) := gAt_gridL _ hx hr
/-- What the loops have laid. -/
def TurnI (n : Nat) (b X Y : List (List Int)) (r c : Nat) : Prop := sqShape n X ∧ sqShape n Y ∧ ∀ p a, p < n → a < n → (p < r ∨ (p = r ∧ a < c)) → gAt X a p = gAt b p a ∧ gAt Y (gAt b p a).toNat p = a
theorem TurnI.zero {n : Nat} {b X Y : List (List Int)} (hX : sqShape n X) (hY : sqShape n Y) : TurnI n b X Y 0 0 := ⟨hX, hY, fun p a _ _ h => by omega⟩
theorem TurnI.row {n : Nat} {b X Y : List (List Int)} {r : Nat} (h : TurnI n b X Y r n) : TurnI n b X Y (r + 1) 0 := ⟨h.1, h.2.1, fun p a hp ha h2 => h.2.2 p a hp ha (by omega)⟩
theorem TurnI.step {n : Nat} {b X Y : List (List Int)} {r c x : Nat} (h : TurnI n b X Y r c) (hb : IsFull n b) (hr : r < n) (hc : c < n) (hx : gAt b r c = x) : TurnI n b (gset X c r (x : Nat)) (gset Y x r (c : Nat)) r (c + 1) := by
  obtain ⟨h1, h2, h3⟩ := h
  have hl := hb.lo r c hr hc
  have hxn : x < n := by omega
  refine ⟨gset_shape h1 _ _ _, gset_shape h2 _ _ _, fun p a hp ha hq => ?_⟩
  rw [gAt_gset h1 hc hr, gAt_gset h2 hxn hr]
  by_cases e : p = r ∧ a = c
  · obtain ⟨rfl, rfl⟩ := e
    rw [if_pos ⟨rfl, rfl⟩, hx, if_pos ⟨by omega, rfl⟩]
    exact ⟨rfl, rfl⟩
  · rw [if_neg fun h => e ⟨h.2, h.1⟩, if_neg fun h => e ⟨h.2, ?_⟩]
    · exact h3 p a hp ha (by omega)
    · obtain ⟨h4, rfl⟩ := h
      rcases Decidable.em (a = c) with h5 | h5
      · exact h5
      · exfalso
        have l2 := hb.lo p a hp ha
        exact hb.once.1 p a c hp ha hc h5 l2.1 (by omega)
theorem TurnI.done {n : Nat} {b X Y : List (List Int)} (h : TurnI n b X Y n 0) (hb : IsFull n b) : X = tcL b n ∧ Y = txL b n := by
  obtain ⟨h1, h2, h3⟩ := h
  refine ⟨grid_ext h1 (gridL_shape _ _) fun a p ha hp => ?_, grid_ext h2 (gridL_shape _ _) fun x p hx hp => ?_⟩
  · rw [(h3 p a hp ha (by omega)).1]; exact (tcL_at hp ha).symm
  · obtain ⟨k1, k2⟩ := posN_lt hb hp hx
    have := (h3 p _ hp k1 (by omega)).2
    rw [k2] at this
    exact this.trans (txL_at hp hx).symm
/-- What Turned returns. -/
def tuX (b : List (List Int)) : List (List Int) := if fullB b = true then tcL b b.length else []
def tuY (b : List (List Int)) : List (List Int) := if fullB b = true then txL b b.length else []
end Go.Proofs.YtiodednhadnekaaDoor

namespace Go.Proofs.YtiodednhadnekaaDoor
open Go.RowKit Go.Deep
attribute [local go_sem ↓] Go.wp_at_zero Go.wp_at_succ

theorem GridM.far {w : World} {gO n : Nat} {gr cr : Nat → Nat} {b : List (List Int)} (h : GridM w gO gr cr n b) {a : Addr} (h1 : a.block ≠ gO) (h2 : ∀ r, r < n → a.block ≠ gr r) (u : Value) : GridM (w.setCell a u) gO gr cr n b :=
  ⟨fun i hi => (World.cell?_setCell_other w a ⟨gO, i, none⟩ _ (fun e => h1 (by rw [e]))).trans (h.hdr i hi), fun r c hr hc => (World.cell?_setCell_other w a ⟨gr r, c, none⟩ _ (fun e => h2 r hr (by rw [e]))).trans (h.val r c hr hc),
   fun r hr => by
    obtain ⟨cs, e⟩ := h.blk r hr
    exact ⟨cs, (Below.heap_setCell w a u (gr r) (fun e => h2 r hr e.symm)).trans e⟩, h.inj, h.cap⟩
/-- Two grids that do not share memory. -/
structure TwoG (w : World) (base gO gP n : Nat) (gr cr hr dr : Nat → Nat) (X Y : List (List Int)) : Prop where
  x : GridM w gO gr cr n X
  y : GridM w gP hr dr n Y
  bx : ∀ r, r < n → base ≤ gr r
  by_ : ∀ r, r < n → base ≤ hr r
  rr : ∀ r s, r < n → s < n → gr r ≠ hr s
  ro : ∀ r, r < n → gr r ≠ gP
  so : ∀ r, r < n → hr r ≠ gO
theorem TwoG.setX {w : World} {base gO gP n : Nat} {gr cr hr dr : Nat → Nat} {X Y : List (List Int)} (h : TwoG w base gO gP n gr cr hr dr X Y) (hX : sqShape n X) {r c : Nat} (h1 : r < n) (h2 : c < n) (x : Int) : TwoG (w.setCell ⟨gr r, c, none⟩ (.int .i64 x)) base gO gP n gr cr hr dr (gset X r c x) Y :=
  ⟨h.x.set_ hX h1 h2 x, h.y.far (a := ⟨gr r, c, none⟩) (h.ro r h1) (fun s hs => h.rr r s h1 hs) _, h.bx, h.by_, h.rr, h.ro, h.so⟩
theorem TwoG.setY {w : World} {base gO gP n : Nat} {gr cr hr dr : Nat → Nat} {X Y : List (List Int)} (h : TwoG w base gO gP n gr cr hr dr X Y) (hY : sqShape n Y) {r c : Nat} (h1 : r < n) (h2 : c < n) (x : Int) : TwoG (w.setCell ⟨hr r, c, none⟩ (.int .i64 x)) base gO gP n gr cr hr dr X (gset Y r c x) :=
  ⟨h.x.far (a := ⟨hr r, c, none⟩) (h.so r h1) (fun s hs e => h.rr s r hs h1 e.symm) _, h.y.set_ hY h1 h2 x, h.bx, h.by_, h.rr, h.ro, h.so⟩
theorem TwoG.drewN {w : World} {base gO gP n : Nat} {gr cr hr dr : Nat → Nat} {X Y : List (List Int)} (h : TwoG w base gO gP n gr cr hr dr X Y) (q : Nat) : TwoG (w.drewN q) base gO gP n gr cr hr dr X Y := ⟨h.x.drewN q, h.y.drewN q, h.bx, h.by_, h.rr, h.ro, h.so⟩
theorem below_set {base : Nat} {w w' : World} (h : Below base w w') {a : Addr} (ha : base ≤ a.block) (u : Value) : Below base w (w'.setCell a u) := h.setCell ha u
set_option maxRecDepth 100000 in
set_option maxHeartbeats 8000000 in
/-- dibberref01.Turned -/
theorem f44_any (A : Option Addr) (n c : Nat) (b : List (List Int)) (w : World) (hs : Beds w A n c b) :
    Calls Tryd.prog 44 #[.slice A n c] w fun e w' => ∃ A1 k1 c1 A2 k2 c2, e = .returned (.tuple #[.slice A1 k1 c1, .slice A2 k2 c2, .int .i64 (trE b)]) ∧ Beds w' A1 k1 c1 (tuX b) ∧ Beds w' A2 k2 c2 (tuY b) ∧ Below w.heap.size w w' := by
  have K21 := Lib.hid (f21_any A n c b w hs)
  cases hf : fullB b
  · rw [hf] at K21
    have HE : Hid (trE b = 2 ∧ tuX b = [] ∧ tuY b = []) := by unfold trE tuX tuY; rw [hf]; exact ⟨rfl, rfl, rfl⟩
    clear hs hf
    go_enter Tryd.func44, Tryd.ntmps44
    go_wp2_with fail
    refine K21.out.mono ?_
    rintro e w1 ⟨rfl, rfl⟩
    go_wp2
    refine bodyPost_ret (v := .tuple #[.slice none 0 0, .slice none 0 0, .int .i64 2]) (by simp [results, Tryd.results44, go_sem]) rfl ?_
    exact ⟨none, 0, 0, none, 0, 0, by rw [HE.out.1], by rw [HE.out.2.1]; exact Beds.nil _, by rw [HE.out.2.2]; exact Beds.nil _, Below.refl _ _⟩
  · rw [hf] at K21
    obtain ⟨hn1, hn7, hfull⟩ := fullB_iff.1 hf
    have hbl := hs.len
    rw [hbl] at hn1 hn7 hfull
    have HE : Hid (trE b = 0 ∧ tuX b = tcL b n ∧ tuY b = txL b n) := by unfold trE tuX tuY; rw [hf, hbl]; exact ⟨rfl, rfl, rfl⟩
    have HROW : Hid (∀ i, i < n → (b.getD i []).length = n) := hfull.shape.2
    have hrow : ∀ j, (b.getD j []).length ≤ 1000 := fun j => by
      rcases Nat.lt_or_ge j n with h | h
      · rw [HROW.out j h]; omega
      · rw [List.getD_eq_getElem?_getD, List.getElem?_eq_none (by omega)]; simp
    have HF := Lib.hid hfull
    have HS := Lib.hid hs
    have K24 := Lib.hid (f24_own A n c b w hs hrow (by omega))
    have K24b : Hid (∀ W, Below w.heap.size w W → Calls Tryd.prog 24 #[.slice A n c] W fun e w' => ∃ v, e = .returned v ∧ BRowA w' W.heap.size v b ∧ Below W.heap.size W w') := Lib.hid fun W h => f24_own A n c b W (hs.below h) hrow (by omega)
    obtain ⟨g0, o0, hA0, _⟩ := hs.at_ hn1
    subst hA0
    clear hf hs hfull hrow
    go_enter Tryd.func44, Tryd.ntmps44
    go_wp2_with fail
    refine K21.out.mono ?_
    rintro e w1 ⟨rfl, rfl⟩
    go_wp2_with fail
    refine K24.out.mono ?_
    rintro e w2 ⟨v, rfl, hv, hb2⟩
    obtain ⟨gO, gr, cr, cO, rfl, hg, hcO, hbO, hbr⟩ := hv.grid HF.out.shape hn1 hn7
    have HB2 := Lib.hid hb2
    have HG := Lib.hid hg
    have HBR := Lib.hid hbr
    have HBO := Lib.hid hbO
    clear hv hb2 hg hbO hbr K24 K21
    go_wp2_with fail
    refine (K24b.out w2 HB2.out).mono ?_
    rintro e w3 ⟨v, rfl, hv, hb3⟩
    obtain ⟨gP, hr, dr, cP, rfl, hg3, hcP, hbP, hbr3⟩ := hv.grid HF.out.shape hn1 hn7
    have hsz := HB2.out.size
    have HB3 := Lib.hid (HB2.out.trans (hb3.mono hsz))
    have hlow : ∀ r, r < n → gr r < w2.heap.size := fun r h => lt_of_cell (HG.out.val r 0 h (by omega))
    have hlO : gO < w2.heap.size := lt_of_cell (HG.out.hdr 0 (by omega))
    have HT : Hid (TwoG w3 w.heap.size gO gP n gr cr hr dr b b) := Lib.hid ⟨HG.out.below hb3, hg3, HBR.out, fun r h => Nat.le_trans hsz (hbr3 r h), fun r s h1 h2 e => by have := hlow r h1; have := hbr3 s h2; omega, fun r h e => by have := hlow r h; omega, fun r h e => by have := hbr3 r h; omega⟩
    clear hv hb3 hg3 hbP hbr3 K24b hlow hlO hsz HG HBR HBO HB2
    go_wp2
    go_loopw [7] (fun ri wr => ∃ (r : Nat) (X Y : List (List Int)), r ≤ n ∧ ri = .int .i64 (r : Int) ∧ TurnI n b X Y r 0 ∧ TwoG wr w.heap.size gO gP n gr cr hr dr X Y ∧ Below w.heap.size w wr) (fun ri _ => n - (intOf ri).toNat)
    case atStart => exact ⟨0, b, b, by omega, rfl, TurnI.zero HF.out.shape HF.out.shape, HT.out, HB3.out⟩
    case round => as_aux_lemma =>
      obtain ⟨r, X, Y, hr', rfl, hT, hG, hbel⟩ := hrel
      by_cases hrn : r < n
      · have HT1 := Lib.hid hT
        have HG1 := Lib.hid hG
        have HBL := Lib.hid hbel
        have r0 : (0 : Int) ≤ (r : Int) := by omega
        have rn : (r : Int) < (n : Int) := by omega
        clear hT hG hbel
        go_wp2
        go_loopw [8] (fun ci wr => ∃ (k : Nat) (X Y : List (List Int)), k ≤ n ∧ ci = .int .i64 (k : Int) ∧ TurnI n b X Y r k ∧ TwoG wr w.heap.size gO gP n gr cr hr dr X Y ∧ Below w.heap.size w wr) (fun ci _ => n - (intOf ci).toNat)
        case atStart => exact ⟨0, X, Y, by omega, rfl, HT1.out, HG1.out, HBL.out⟩
        case round => as_aux_lemma =>
          obtain ⟨k, X, Y, hk, rfl, hT, hG, hbel⟩ := hrel
          by_cases hkn : k < n
          · obtain ⟨gi, oi, eAi, Bi, di, hci, _, _, hIi⟩ := (HS.out.below hbel).at_ hrn
            injection eAi with eAi
            injection eAi with e1 e2
            subst e1 e2
            rw [HROW.out r hrn] at hci hIi
            obtain ⟨g1, p1, rfl, hc1⟩ := hIi.at_ hkn
            have hl := HF.out.lo r k hrn hkn
            obtain ⟨x, hx⟩ := nat_of (gAt b r k) hl.1
            have hxn : x < n := by omega
            have hST := Lib.hid (hT.step HF.out hrn hkn hx)
            have hx2 : (b.getD r []).getD k 0 = (x : Int) := hx
            rw [hx2] at hc1
            have X1 := hG.x.hdr k hkn
            have X2 := hG.x.val k r hkn hrn
            have X3 := hG.x.frozen hkn r
            obtain ⟨w4, hw4⟩ : ∃ z, z = wr.setCell ⟨gr k, r, none⟩ (.int .i64 (x : Int)) := ⟨_, rfl⟩
            have hG4 := hG.setX hT.1 hkn hrn (x : Int)
            rw [← hw4] at hG4
            have hB4 : Below w.heap.size w w4 := by rw [hw4]; exact below_set hbel (hG.bx k hkn) _
            have hG5 := hG4.drewN 1
            have hB5 : Below w.heap.size w (w4.drew) := below_drewN hB4 1
            obtain ⟨w5, hw5⟩ : ∃ z, z = w4.drew := ⟨_, rfl⟩
            have e5 : w4.drewN 1 = w5 := hw5.symm
            rw [e5] at hG5
            rw [← hw5] at hB5
            obtain ⟨gi2, oi2, eAi2, Bi2, di2, hci2, _, _, hIi2⟩ := (HS.out.below hB5).at_ hrn
            injection eAi2 with eAi2
            injection eAi2 with e1 e2
            subst e1 e2
            rw [HROW.out r hrn] at hci2 hIi2
            obtain ⟨g2, p2, rfl, hc2⟩ := hIi2.at_ hkn
            rw [hx2] at hc2
            have Y1 := hG5.y.hdr x hxn
            have Y2 := hG5.y.val x r hxn hrn
            have Y3 := hG5.y.frozen hxn r
            have HG6 := Lib.hid (hG5.setY hT.2.1 hxn hrn (k : Int))
            have HB6 := Lib.hid (below_set hB5 (hG5.by_ x hxn) (a := ⟨hr x, r, none⟩) (.int .i64 (k : Int)))
            have k0 : (0 : Int) ≤ (k : Int) := by omega
            have kn : (k : Int) < (n : Int) := by omega
            have x0 : (0 : Int) ≤ (x : Int) := by omega
            have xn : (x : Int) < (n : Int) := by omega
            generalize gAt X k r = u1 at *
            generalize gAt Y x r = u2 at *
            clear hIi hIi2 hl hx hx2 hT hG hbel hG4 hB4 hG5 hB5 e5
            go_wp2
            go_still_tail 13, (by kernel_rfl)
            go_upto_region 11 with (fail)
            rw [← hw4, ← hw5]
            clear hw4 hw5
            go_wp2
            go_roundw
            case rel => exact ⟨k + 1, _, _, by omega, by go_num, hST.out, HG6.out, HB6.out⟩
            case measure => simp [intOf]; omega
          · obtain rfl : k = n := by omega
            have HT2 := Lib.hid hT.row
            have HG2 := Lib.hid hG
            have HB2 := Lib.hid hbel
            clear hT hG hbel
            go_wp2
            go_roundw
            case rel => exact ⟨r + 1, X, Y, by omega, by go_num, HT2.out, HG2.out, HB2.out⟩
            case measure => simp [intOf]; omega
      · obtain rfl : r = n := by omega
        obtain ⟨eX, eY⟩ := hT.done HF.out
        have HX : Hid (Beds wr (some ⟨gO, 0, none⟩) r cO (tuX b)) := Lib.hid (by rw [HE.out.2.1, ← eX]; exact hG.x.beds hT.1 hn7 hcO)
        have HY : Hid (Beds wr (some ⟨gP, 0, none⟩) r cP (tuY b)) := Lib.hid (by rw [HE.out.2.2, ← eY]; exact hG.y.beds hT.2.1 hn7 hcP)
        have HB2 := Lib.hid hbel
        clear hT hG hbel eX eY
        go_wp2
        refine bodyPost_ret (v := .tuple #[.slice (some ⟨gO, 0, none⟩) r cO, .slice (some ⟨gP, 0, none⟩) r cP, .int .i64 0]) (by simp [results, Tryd.results44, go_sem]) rfl ?_
        exact ⟨_, _, _, _, _, _, by rw [HE.out.1], HX.out, HY.out, HB2.out⟩
end Go.Proofs.YtiodednhadnekaaDoor

namespace Go.Proofs.YtiodednhadnekaaDoor
open Go.RowKit Go.Deep
attribute [local go_sem ↓] Go.wp_at_zero Go.wp_at_succ

/-- The headers of a grid of which r rows are made. -/
def hdrV (n r : Nat) (G : Nat → Nat) : List Value := (List.range n).map fun i => if i < r then Value.slice (some ⟨G i, 0, none⟩) n n else .slice none 0 0
theorem hdrV_len (n r : Nat) (G : Nat → Nat) : (hdrV n r G).length = n := by simp [hdrV]
theorem hdrV_get {n i : Nat} (r : Nat) (G : Nat → Nat) (hi : i < n) : (hdrV n r G)[i]? = some (if i < r then Value.slice (some ⟨G i, 0, none⟩) n n else .slice none 0 0) := by simp [hdrV, hi]
theorem hdrV_zero (n : Nat) (G : Nat → Nat) : hdrV n 0 G = List.replicate n (.slice none 0 0) := by
  apply List.ext_getElem (by simp [hdrV])
  intro i h1 h2
  simp [hdrV]
def putF (G : Nat → Nat) (r g : Nat) : Nat → Nat := fun i => if i = r then g else G i
theorem hdrV_set {n r : Nat} (G : Nat → Nat) (g : Nat) : (hdrV n r G).set r (.slice (some ⟨g, 0, none⟩) n n) = hdrV n (r + 1) (putF G r g) := by
  apply List.ext_getElem (by simp [hdrV])
  intro i h1 h2
  simp only [hdrV, List.getElem_set, List.getElem_map, List.getElem_range, putF]
  by_cases e : r = i
  · subst e; rw [if_pos rfl, if_pos (by omega), if_pos rfl]
  · rw [if_neg e]
    by_cases hi : i < r
    · rw [if_pos hi, if_pos (by omega), if_neg (fun h => e h.symm)]
    · rw [if_neg hi, if_neg (by omega)]
/-- Two grids as they are made. -/
structure MkI (w : World) (m gO gP n r : Nat) (G H : Nat → Nat) : Prop where
  o : OwnV w gO (hdrV n r G)
  p : OwnV w gP (hdrV n r H)
  g : ∀ j, j < r → Own w (G j) (List.replicate n 0) ∧ m ≤ G j
  h : ∀ j, j < r → Own w (H j) (List.replicate n 0) ∧ m ≤ H j
  gg : ∀ i j, i < r → j < r → i ≠ j → G i ≠ G j
  hh : ∀ i j, i < r → j < r → i ≠ j → H i ≠ H j
  gh : ∀ i j, i < r → j < r → G i ≠ H j
  lo : gO < m
  lp : gP < m
  ne : gO ≠ gP
theorem MkI.next {w w' : World} {m gO gP n r g h : Nat} {G H : Nat → Nat} (k : MkI w m gO gP n r G H) (hm : m ≤ w.heap.size) (hb : Below w.heap.size w w') (hg : Own w' g (List.replicate n 0)) (hh : Own w' h (List.replicate n 0)) (lg : w.heap.size ≤ g) (lh : w.heap.size ≤ h) (hne : g ≠ h) :
    MkI ((w'.setCell ⟨gO, r, none⟩ (.slice (some ⟨g, 0, none⟩) n n)).setCell ⟨gP, r, none⟩ (.slice (some ⟨h, 0, none⟩) n n)) m gO gP n (r + 1) (putF G r g) (putF H r h) := by
  have o1 := (k.o.below hb).set_ r (v := .slice (some ⟨g, 0, none⟩) n n) ⟨_, _, _, rfl⟩
  have p1 := (k.p.below hb).far (p := ⟨gO, r, none⟩) k.ne.symm (.slice (some ⟨g, 0, none⟩) n n)
  have o2 := o1.far (p := ⟨gP, r, none⟩) k.ne (.slice (some ⟨h, 0, none⟩) n n)
  have p2 := p1.set_ r (v := .slice (some ⟨h, 0, none⟩) n n) ⟨_, _, _, rfl⟩
  rw [hdrV_set] at o2 p2
  have far : ∀ i, m ≤ i → Own w' i (List.replicate n 0) → Own ((w'.setCell ⟨gO, r, none⟩ (.slice (some ⟨g, 0, none⟩) n n)).setCell ⟨gP, r, none⟩ (.slice (some ⟨h, 0, none⟩) n n)) i (List.replicate n 0) := fun i hi ho => (ho.far (p := ⟨gO, r, none⟩) (by show i ≠ gO; have := k.lo; omega) _).far (p := ⟨gP, r, none⟩) (by show i ≠ gP; have := k.lp; omega) _
  have gl : ∀ j, j < r → G j < w.heap.size := fun j hj => (k.g j hj).1.lt
  have hl : ∀ j, j < r → H j < w.heap.size := fun j hj => (k.h j hj).1.lt
  refine ⟨o2, p2, fun j hj => ?_, fun j hj => ?_, fun i j hi hj hij => ?_, fun i j hi hj hij => ?_, fun i j hi hj => ?_, k.lo, k.lp, k.ne⟩
  · unfold putF
    by_cases e : j = r
    · rw [if_pos e]; exact ⟨far g (by omega) hg, by omega⟩
    · rw [if_neg e]; have := k.g j (by omega); exact ⟨far _ this.2 (this.1.below' hb), this.2⟩
  · unfold putF
    by_cases e : j = r
    · rw [if_pos e]; exact ⟨far h (by omega) hh, by omega⟩
    · rw [if_neg e]; have := k.h j (by omega); exact ⟨far _ this.2 (this.1.below' hb), this.2⟩
  · unfold putF
    by_cases e : i = r
    · rw [if_pos e, if_neg (by omega)]; have := gl j (by omega); omega
    · rw [if_neg e]
      by_cases e2 : j = r
      · rw [if_pos e2]; have := gl i (by omega); omega
      · rw [if_neg e2]; exact k.gg i j (by omega) (by omega) hij
  · unfold putF
    by_cases e : i = r
    · rw [if_pos e, if_neg (by omega)]; have := hl j (by omega); omega
    · rw [if_neg e]
      by_cases e2 : j = r
      · rw [if_pos e2]; have := hl i (by omega); omega
      · rw [if_neg e2]; exact k.hh i j (by omega) (by omega) hij
  · unfold putF
    by_cases e : i = r
    · rw [if_pos e]
      by_cases e2 : j = r
      · rw [if_pos e2]; exact hne
      · rw [if_neg e2]; have := hl j (by omega); omega
    · rw [if_neg e]
      by_cases e2 : j = r
      · rw [if_pos e2]; have := gl i (by omega); omega
      · rw [if_neg e2]; exact k.gh i j (by omega) (by omega)
theorem MkI.drewN {w : World} {m gO gP n r : Nat} {G H : Nat → Nat} (k : MkI w m gO gP n r G H) (q : Nat) : MkI (w.drewN q) m gO gP n r G H := ⟨k.o, k.p, k.g, k.h, k.gg, k.hh, k.gh, k.lo, k.lp, k.ne⟩
theorem MkI.start {w : World} {m gO gP n : Nat} (ho : OwnV w gO (List.replicate n (.slice none 0 0))) (hp : OwnV w gP (List.replicate n (.slice none 0 0))) (lo : gO < m) (lp : gP < m) (ne : gO ≠ gP) : MkI w m gO gP n 0 (fun _ => 0) (fun _ => 0) :=
  ⟨by rw [hdrV_zero]; exact ho, by rw [hdrV_zero]; exact hp, fun j hj => absurd hj (by omega), fun j hj => absurd hj (by omega), fun i j hi => absurd hi (by omega), fun i j hi => absurd hi (by omega), fun i j hi => absurd hi (by omega), lo, lp, ne⟩
def zeroG (n : Nat) : List (List Int) := List.replicate n (List.replicate n 0)
theorem zeroG_shape (n : Nat) : sqShape n (zeroG n) := ⟨by simp [zeroG], fun r hr => by simp [zeroG, List.getD_eq_getElem?_getD, hr]⟩
theorem zeroG_at {n r c : Nat} (hr : r < n) (hc : c < n) : gAt (zeroG n) r c = 0 := by simp [gAt, zeroG, List.getD_eq_getElem?_getD, hr, hc]
theorem own_grid {w : World} {gO n : Nat} {G : Nat → Nat} (ho : OwnV w gO (hdrV n n G)) (hg : ∀ j, j < n → Own w (G j) (List.replicate n 0)) (gg : ∀ i j, i < n → j < n → i ≠ j → G i ≠ G j) : GridM w gO G (fun _ => n) n (zeroG n) := by
  refine ⟨fun r hr => ?_, fun r c hr hc => ?_, fun r hr => ⟨_, hg r hr⟩, fun r s hr hs e => ?_, fun r _ => Nat.le_refl _⟩
  · rw [ho.cell, hdrV_get n G hr, if_pos hr]
  · have := (hg r hr).cell c (by simpa using hc)
    rw [zeroG_at hr hc, this]
    simp [List.getD_eq_getElem?_getD, hc]
  · rcases Decidable.em (r = s) with h | h
    · exact h
    · exact absurd e (gg r s hr hs h)
theorem MkI.two {w : World} {m base gO gP n : Nat} {G H : Nat → Nat} (k : MkI w m gO gP n n G H) (hb : base ≤ m) : TwoG w base gO gP n G (fun _ => n) H (fun _ => n) (zeroG n) (zeroG n) :=
  ⟨own_grid k.o (fun j hj => (k.g j hj).1) k.gg, own_grid k.p (fun j hj => (k.h j hj).1) k.hh, fun r hr => Nat.le_trans hb (k.g r hr).2, fun r hr => Nat.le_trans hb (k.h r hr).2, k.gh, fun r hr e => by have := (k.g r hr).2; have := k.lp; omega, fun r hr e => by have := (k.h r hr).2; have := k.lo; omega⟩
theorem MkI.spot {w : World} {m gO gP n r : Nat} {G H : Nat → Nat} (k : MkI w m gO gP n r G H) (hr : r < n) : ∀ W, Below w.heap.size w W → (∃ u, W.cell? ⟨gO, r, none⟩ = some u) ∧ W.frozen? ⟨gO, r, none⟩ = false ∧ (∃ u, W.cell? ⟨gP, r, none⟩ = some u) ∧ W.frozen? ⟨gP, r, none⟩ = false := fun W hb =>
  ⟨⟨_, by rw [(k.o.below hb).cell, hdrV_get r G hr]⟩, (k.o.below hb).frozen r, ⟨_, by rw [(k.p.below hb).cell, hdrV_get r H hr]⟩, (k.p.below hb).frozen r⟩
theorem two_made (w : World) (n : Nat) : OwnV (((w.alloc (.cells (Array.replicate n (Value.slice none 0 0)) 29)).alloc (.cells (Array.replicate n (Value.slice none 0 0)) 29)).drew) w.heap.size (List.replicate n (.slice none 0 0)) ∧ OwnV (((w.alloc (.cells (Array.replicate n (Value.slice none 0 0)) 29)).alloc (.cells (Array.replicate n (Value.slice none 0 0)) 29)).drew) (w.heap.size + 1) (List.replicate n (.slice none 0 0)) := by
  rw [← List.toArray_replicate]
  have h1 := OwnV.made w n
  have s1 : (w.alloc (.cells (List.replicate n (Value.slice none 0 0)).toArray 29)).heap.size = w.heap.size + 1 := by simp
  generalize w.alloc (.cells (List.replicate n (Value.slice none 0 0)).toArray 29) = w1 at *
  have h2 := OwnV.made w1 n
  rw [s1] at h2
  exact ⟨(h1.below (below_alloc w1 _)).drewN 1, h2.drewN 1⟩
theorem two_ints (w : World) (n : Nat) : Own (((w.alloc (.cells ((List.replicate n (0 : Int)).map (Value.int .i64)).toArray 3)).alloc (.cells ((List.replicate n (0 : Int)).map (Value.int .i64)).toArray 3))) w.heap.size (List.replicate n 0) ∧ Own (((w.alloc (.cells ((List.replicate n (0 : Int)).map (Value.int .i64)).toArray 3)).alloc (.cells ((List.replicate n (0 : Int)).map (Value.int .i64)).toArray 3))) (w.heap.size + 1) (List.replicate n 0) := by
  have h1 := Own.made w n
  have s1 : (w.alloc (.cells ((List.replicate n (0 : Int)).map (Value.int .i64)).toArray 3)).heap.size = w.heap.size + 1 := by simp
  generalize w.alloc (.cells ((List.replicate n (0 : Int)).map (Value.int .i64)).toArray 3) = w1 at *
  have h2 := Own.made w1 n
  rw [s1] at h2
  exact ⟨h1.below' (below_alloc w1 _), h2⟩
set_option maxRecDepth 100000 in
set_option maxHeartbeats 8000000 in
/-- bed.Turned -/
theorem f43_any (A : Option Addr) (n c : Nat) (b : List (List Int)) (w : World) (hs : Beds w A n c b) :
    Calls Tryd.prog 43 #[.slice A n c] w fun e w' => ∃ A1 k1 c1 A2 k2 c2, e = .returned (.tuple #[.slice A1 k1 c1, .slice A2 k2 c2, .int .i64 (trE b)]) ∧ Beds w' A1 k1 c1 (tuX b) ∧ Beds w' A2 k2 c2 (tuY b) ∧ Below w.heap.size w w' := by
  have K60 := Lib.hid (f60_any A n c b w hs)
  cases hf : fullB b
  · rw [hf] at K60
    have HE : Hid (trE b = 2 ∧ tuX b = [] ∧ tuY b = []) := by unfold trE tuX tuY; rw [hf]; exact ⟨rfl, rfl, rfl⟩
    clear hs hf
    go_enter Tryd.func43, Tryd.ntmps43
    go_wp2_with fail
    refine K60.out.mono ?_
    rintro e w1 ⟨rfl, hb⟩
    have HB := Lib.hid hb
    clear hb
    go_wp2
    refine bodyPost_ret (v := .tuple #[.slice none 0 0, .slice none 0 0, .int .i64 2]) (by simp [results, Tryd.results43, go_sem]) rfl ?_
    exact ⟨none, 0, 0, none, 0, 0, by rw [HE.out.1], by rw [HE.out.2.1]; exact Beds.nil _, by rw [HE.out.2.2]; exact Beds.nil _, HB.out⟩
  · rw [hf] at K60
    obtain ⟨hn1, hn7, hfull⟩ := fullB_iff.1 hf
    have hbl := hs.len
    rw [hbl] at hn1 hn7 hfull
    have HE : Hid (trE b = 0 ∧ tuX b = tcL b n ∧ tuY b = txL b n) := by unfold trE tuX tuY; rw [hf, hbl]; exact ⟨rfl, rfl, rfl⟩
    have HROW : Hid (∀ i, i < n → (b.getD i []).length = n) := hfull.shape.2
    have HF := Lib.hid hfull
    have HS := Lib.hid hs
    have hmk := make_slices n (by omega)
    have hmi := make_ints n (by omega)
    obtain ⟨g0, o0, hA0, _⟩ := hs.at_ hn1
    subst hA0
    clear hf hs hfull
    go_enter Tryd.func43, Tryd.ntmps43
    go_wp2_with fail
    refine K60.out.mono ?_
    rintro e w1 ⟨rfl, hb⟩
    have HB := Lib.hid hb
    clear hb K60
    go_upto_region 4 with fail
    go_cut [6, 7] (fun s6 s7 wx => ∃ gO gP : Nat, s6 = .slice (some ⟨gO, 0, none⟩) n n ∧ s7 = .slice (some ⟨gP, 0, none⟩) n n ∧ OwnV wx gO (List.replicate n (.slice none 0 0)) ∧ OwnV wx gP (List.replicate n (.slice none 0 0)) ∧ gO ≠ gP ∧ w.heap.size ≤ gO ∧ w.heap.size ≤ gP ∧ Below w.heap.size w wx)
    case first =>
      have HB1 : Hid (Below w.heap.size w (((w1.alloc (.cells (Array.replicate n (Value.slice none 0 0)) 29)).alloc (.cells (Array.replicate n (Value.slice none 0 0)) 29)).drew)) := Lib.hid (below_drewN ((HB.out.alloc HB.out.size _).alloc (Nat.le_trans HB.out.size (below_alloc w1 _).size) _) 1)
      have HTM := Lib.hid (two_made w1 n)
      have hsz1 : w.heap.size ≤ w1.heap.size := HB.out.size
      go_region_held3 (fun _ => True) (trivial) (fail)
      all_goals
        go_wp2_with fail
        go_meet
        first
          | exact ⟨w1.heap.size, w1.heap.size + 1, rfl, rfl, HTM.out.1, HTM.out.2, by omega, hsz1, by omega, HB1.out⟩
          | exact ⟨w1.heap.size + 1, w1.heap.size, rfl, rfl, HTM.out.2, HTM.out.1, by omega, by omega, hsz1, HB1.out⟩
    case rest =>
      obtain ⟨gO, gP, rfl, rfl, hO, hP, hne, hO2, hP2, hbel⟩ := hcut
      have M0 : Hid (MkI wc wc.heap.size gO gP n 0 (fun _ => 0) (fun _ => 0)) := Lib.hid (MkI.start hO hP hO.lt hP.lt hne)
      have HBC := Lib.hid hbel
      have HM : Hid (w.heap.size ≤ wc.heap.size) := hbel.size
      clear hO hP hbel HB
      go_wp2
      go_loopw [23] (fun ri wr => ∃ (r : Nat) (G H : Nat → Nat), r ≤ n ∧ ri = .int .i64 (r : Int) ∧ MkI wr wc.heap.size gO gP n r G H ∧ wc.heap.size ≤ wr.heap.size ∧ Below w.heap.size w wr) (fun ri _ => n - (intOf ri).toNat)
      case atStart => exact ⟨0, _, _, by omega, rfl, M0.out, Nat.le_refl _, HBC.out⟩
      case round => as_aux_lemma =>
        obtain ⟨r, G, H, hr, rfl, hM, hsz, hB⟩ := hrel
        by_cases hrn : r < n
        · have r0 : (0 : Int) ≤ (r : Int) := by omega
          have rn : (r : Int) < (n : Int) := by omega
          have HM1 := Lib.hid hM
          have HB1 := Lib.hid hB
          obtain ⟨⟨v1, hv1⟩, hz1, ⟨v2, hv2⟩, hz2⟩ := hM.spot hrn wr (Below.refl _ _)
          obtain ⟨Z, hZ⟩ : ∃ z, z = Obj.cells ((List.replicate n (0 : Int)).map (Value.int .i64)).toArray 3 := ⟨_, rfl⟩
          rw [← hZ] at hmi
          have HTI := Lib.hid (two_ints wr n)
          rw [← hZ] at HTI
          obtain ⟨⟨v3, hv3⟩, hz3, ⟨v4, hv4⟩, hz4⟩ := hM.spot hrn (wr.alloc Z) (below_alloc wr Z)
          obtain ⟨⟨v5, hv5⟩, hz5, ⟨v6, hv6⟩, hz6⟩ := hM.spot hrn ((wr.alloc Z).alloc Z) (below_alloc2 wr Z Z)
          have HNE := hM.ne
          have hlp : gP < (wr.alloc Z).heap.size := lt_of_cell hv4
          have hbk : (((wr.alloc Z).setCell ⟨gO, r, none⟩ (.slice (some ⟨wr.heap.size, 0, none⟩) n n)).alloc Z).heap[gP]? = (wr.alloc Z).heap[gP]? := (Below.heap_alloc _ Z gP (by simpa using hlp)).trans (Below.heap_setCell _ ⟨gO, r, none⟩ _ gP HNE.symm)
          have hv7 := (World.cell?_of_block (a := ⟨gP, r, none⟩) hbk).trans hv4
          have hz7 := (World.frozen?_of_block (a := ⟨gP, r, none⟩) hbk).trans hz4
          have HX1 := Lib.hid ((hM.next hsz (below_alloc2 wr Z Z) HTI.out.1 HTI.out.2 (Nat.le_refl _) (Nat.le_succ _) (Nat.succ_ne_self _).symm).drewN 1)
          have HX2 := Lib.hid ((hM.next hsz (below_alloc2 wr Z Z) HTI.out.2 HTI.out.1 (Nat.le_succ _) (Nat.le_refl _) (Nat.succ_ne_self _)).drewN 1)
          have HBX : Hid (∀ u v, Below w.heap.size w ((((wr.alloc Z).alloc Z).setCell ⟨gO, r, none⟩ u).setCell ⟨gP, r, none⟩ v).drew ∧ wc.heap.size ≤ ((((wr.alloc Z).alloc Z).setCell ⟨gO, r, none⟩ u).setCell ⟨gP, r, none⟩ v).drew.heap.size) := Lib.hid fun u v => ⟨below_drewN (((((hB.alloc hB.size Z).alloc (Nat.le_trans hB.size (below_alloc wr Z).size) Z).setCell (by exact hO2) _).setCell (by exact hP2) _)) 1, by
            have : ((((wr.alloc Z).alloc Z).setCell ⟨gO, r, none⟩ u).setCell ⟨gP, r, none⟩ v).drew.heap.size = wr.heap.size + 1 + 1 := by simp
            omega⟩
          have HSW : Hid (∀ u, ((wr.alloc Z).setCell ⟨gO, r, none⟩ u).alloc Z = ((wr.alloc Z).alloc Z).setCell ⟨gO, r, none⟩ u) := Lib.hid fun u => (World.setCell_alloc_past (w := wr.alloc Z) Z gO r u (lt_of_cell hv3)).symm
          clear hZ hlp hbk
          clear hM hB
          go_wp2_with fail
          go_region_held3 (fun _ => True) (trivial) (fail)
          all_goals
            try rw [HSW.out]
            go_wp2
            go_roundw
            case rel =>
              first
                | exact ⟨r + 1, _, _, by omega, by go_num, HX1.out, (HBX.out _ _).2, (HBX.out _ _).1⟩
                | exact ⟨r + 1, _, _, by omega, by go_num, HX2.out, (HBX.out _ _).2, (HBX.out _ _).1⟩
            case measure => simp [intOf]; omega
        · obtain rfl : r = n := by omega
          have HT : Hid (TwoG wr w.heap.size gO gP r G (fun _ => r) H (fun _ => r) (zeroG r) (zeroG r)) := Lib.hid (hM.two HM.out)
          have HB3 := Lib.hid hB
          clear hM hB
          go_wp2
          go_loopw [39] (fun ri wr => ∃ (k : Nat) (X Y : List (List Int)), k ≤ r ∧ ri = .int .i64 (k : Int) ∧ TurnI r b X Y k 0 ∧ TwoG wr w.heap.size gO gP r G (fun _ => r) H (fun _ => r) X Y ∧ Below w.heap.size w wr) (fun ri _ => r - (intOf ri).toNat)
          case atStart => exact ⟨0, _, _, by omega, rfl, TurnI.zero (zeroG_shape r) (zeroG_shape r), HT.out, HB3.out⟩
          case round => as_aux_lemma =>
            obtain ⟨k, X, Y, hk, rfl, hT, hG, hbel⟩ := hrel
            by_cases hkn : k < r
            · obtain ⟨gi, oi, eAi, Bi, di, hci, _, _, hIi⟩ := (HS.out.below hbel).at_ hkn
              injection eAi with eAi
              injection eAi with e1 e2
              subst e1 e2
              rw [HROW.out k hkn] at hci hIi
              obtain ⟨g1, p1, rfl, _⟩ := hIi.at_ (show 0 < r by omega)
              have HT1 := Lib.hid hT
              have HG1 := Lib.hid hG
              have HBL := Lib.hid hbel
              have HII : Hid (∀ W, Below w.heap.size w W → Ints W (some ⟨g1, p1, none⟩) r (b.getD k [])) := Lib.hid fun W h => by
                have hlt : g1 < w.heap.size := by
                  obtain ⟨g9, o9, e9, B9, d9, hc9, _, _, hI9⟩ := HS.out.at_ hkn
                  injection e9 with e9
                  injection e9 with e1 e2
                  subst e1 e2
                  rw [HROW.out k hkn] at hc9 hI9
                  have h1 := (hbel.cell (lt_of_cell hc9)).trans hc9
                  rw [hci] at h1
                  injection h1 with h1
                  injection h1 with h1
                  subst h1
                  obtain ⟨g7, o7, e7, hc7⟩ := hI9.at_ (show 0 < r by omega)
                  injection e7 with e7
                  injection e7 with e1 e2
                  subst e1 e2
                  exact lt_of_cell hc7
                refine ⟨hIi.1, hIi.2.1, fun hn => ?_⟩
                obtain ⟨b9, o9, e9, h9⟩ := hIi.2.2 hn
                injection e9 with e9
                injection e9 with e1 e2
                subst e1 e2
                refine ⟨_, _, rfl, fun j hj => ?_⟩
                exact (h.cell (p := ⟨g1, p1 + j, none⟩) hlt).trans ((hbel.cell (p := ⟨g1, p1 + j, none⟩) hlt).symm.trans (h9 j hj))
              have r0 : (0 : Int) ≤ (k : Int) := by omega
              have rn : (k : Int) < (r : Int) := by omega
              clear hT hG hbel hIi
              go_wp2
              go_loopw [46] (fun ci wr => ∃ (c : Nat) (X Y : List (List Int)), c ≤ r ∧ ci = .int .i64 (c : Int) ∧ TurnI r b X Y k c ∧ TwoG wr w.heap.size gO gP r G (fun _ => r) H (fun _ => r) X Y ∧ Below w.heap.size w wr) (fun ci _ => r - (intOf ci).toNat)
              case atStart => exact ⟨0, X, Y, by omega, rfl, HT1.out, HG1.out, HBL.out⟩
              case round => as_aux_lemma =>
                obtain ⟨c, X, Y, hc, rfl, hT, hG, hbel⟩ := hrel
                by_cases hcn : c < r
                · obtain ⟨g2, p2, e2, hc1⟩ := (HII.out _ hbel).at_ hcn
                  injection e2 with e2
                  injection e2 with e1 e2
                  subst e1 e2
                  have hl := HF.out.lo k c hkn hcn
                  obtain ⟨x, hx⟩ := nat_of (gAt b k c) hl.1
                  have hxn : x < r := by omega
                  have hST := Lib.hid (hT.step HF.out hkn hcn hx)
                  have hx2 : (b.getD k []).getD c 0 = (x : Int) := hx
                  rw [hx2] at hc1
                  have X1 := hG.x.hdr c hcn
                  have X2 := hG.x.val c k hcn hkn
                  have X3 := hG.x.frozen hcn k
                  obtain ⟨w4, hw4⟩ : ∃ z, z = wr.setCell ⟨G c, k, none⟩ (.int .i64 (x : Int)) := ⟨_, rfl⟩
                  have hG4 := hG.setX hT.1 hcn hkn (x : Int)
                  rw [← hw4] at hG4
                  have hB4 : Below w.heap.size w w4 := by rw [hw4]; exact below_set hbel (hG.bx c hcn) _
                  have Y1 := hG4.y.hdr x hxn
                  have Y2 := hG4.y.val x k hxn hkn
                  have Y3 := hG4.y.frozen hxn k
                  have HG6 := Lib.hid (hG4.setY hT.2.1 hxn hkn (c : Int))
                  have HB6 := Lib.hid (below_set hB4 (hG4.by_ x hxn) (a := ⟨H x, k, none⟩) (.int .i64 (c : Int)))
                  have k0 : (0 : Int) ≤ (c : Int) := by omega
                  have kn : (c : Int) < (r : Int) := by omega
                  have x0 : (0 : Int) ≤ (x : Int) := by omega
                  have xn : (x : Int) < (r : Int) := by omega
                  generalize gAt X c k = u1 at *
                  generalize gAt Y x k = u2 at *
                  clear hl hx hx2 hT hG hbel hG4 hB4
                  go_upto_region 17 with (fail)
                  rw [← hw4]
                  clear hw4
                  go_wp2
                  go_roundw
                  case rel => exact ⟨c + 1, _, _, by omega, by go_num, hST.out, HG6.out, HB6.out⟩
                  case measure => simp [intOf]; omega
                · obtain rfl : c = r := by omega
                  have HT2 := Lib.hid hT.row
                  have HG2 := Lib.hid hG
                  have HB2 := Lib.hid hbel
                  clear hT hG hbel
                  go_wp2
                  go_roundw
                  case rel => exact ⟨k + 1, X, Y, by omega, by go_num, HT2.out, HG2.out, HB2.out⟩
                  case measure => simp [intOf]; omega
            · obtain rfl : k = r := by omega
              obtain ⟨eX, eY⟩ := hT.done HF.out
              have HX : Hid (Beds wr (some ⟨gO, 0, none⟩) k k (tuX b)) := Lib.hid (by rw [HE.out.2.1, ← eX]; exact hG.x.beds hT.1 hn7 (Nat.le_refl _))
              have HY : Hid (Beds wr (some ⟨gP, 0, none⟩) k k (tuY b)) := Lib.hid (by rw [HE.out.2.2, ← eY]; exact hG.y.beds hT.2.1 hn7 (Nat.le_refl _))
              have HB2 := Lib.hid hbel
              clear hT hG hbel eX eY
              go_wp2
              refine bodyPost_ret (v := .tuple #[.slice (some ⟨gO, 0, none⟩) k k, .slice (some ⟨gP, 0, none⟩) k k, .int .i64 0]) (by simp [results, Tryd.results43, go_sem]) rfl ?_
              exact ⟨_, _, _, _, _, _, by rw [HE.out.1], HX.out, HY.out, HB2.out⟩
end Go.Proofs.YtiodednhadnekaaDoor

namespace Go.Proofs.YtiodednhadnekaaDoor
open Go.RowKit Go.Deep
attribute [local go_sem ↓] Go.wp_at_zero Go.wp_at_succ

instance (n s : Int) : Decidable (cycOk n s) := by unfold cycOk; infer_instance
/-- What Cyclic returns. -/
def cycE (n s : Int) : Int := if cycOk n s then 0 else 2
def cycG (n s : Int) : List (List Int) := if cycOk n s then cycL n.toNat s.toNat else []
theorem f38_any (n s : Int) (w : World) :
    Calls Tryd.prog 38 #[.int .i64 n, .int .i64 s] w fun e w' => ∃ A k c, e = .returned (.tuple #[.slice A k c, .int .i64 (cycE n s)]) ∧ Beds w' A k c (cycG n s) ∧ Below w.heap.size w w' := by
  unfold cycE cycG
  by_cases h : cycOk n s
  · rw [if_pos h, if_pos h]
    obtain ⟨N, rfl⟩ := nat_of n (by have := h.1; omega)
    obtain ⟨S, rfl⟩ := nat_of s (by have := h.2.2.1; omega)
    refine (f38_yes N S w h).mono fun e w' ⟨A, c, h1, h2, h3⟩ => ⟨A, N, c, h1, ?_, h3⟩
    simpa using h2.beds
  · rw [if_neg h, if_neg h]
    refine (f38_no n s w h).mono fun e w' ⟨h1, q, h2⟩ => ⟨none, 0, 0, h1, ?_, ?_⟩
    · exact Beds.nil _
    · rw [h2]; exact below_drewN (Below.refl _ _) q
theorem f40_any (n s : Int) (w : World) :
    Calls Tryd.prog 40 #[.int .i64 n, .int .i64 s] w fun e w' => ∃ A k c, e = .returned (.tuple #[.slice A k c, .int .i64 (cycE n s)]) ∧ Beds w' A k c (cycG n s) ∧ Below w.heap.size w w' := by
  unfold cycE cycG
  by_cases h : cycOk n s
  · rw [if_pos h, if_pos h]
    obtain ⟨N, rfl⟩ := nat_of n (by have := h.1; omega)
    obtain ⟨S, rfl⟩ := nat_of s (by have := h.2.2.1; omega)
    refine (f40_yes N S w h).mono fun e w' ⟨A, c, h1, h2, h3⟩ => ⟨A, N, c, h1, ?_, h3⟩
    simpa using h2
  · rw [if_neg h, if_neg h]
    refine (f40_no n s w h).mono fun e w' ⟨h1, q, h2⟩ => ⟨none, 0, 0, h1, ?_, ?_⟩
    · exact Beds.nil _
    · rw [h2]; exact below_drewN (Below.refl _ _) q
theorem f20_true (A B : Option Addr) (n c m d : Nat) (xs : List (List Int)) (w : World) (hs : Beds w A n c xs) (ho : Beds w B m d xs) :
    Calls Tryd.prog 20 #[.slice A n c, .slice B m d] w fun e w' => e = .returned (.bool true) ∧ Below w.heap.size w w' :=
  (f20_any A B n c m d xs xs w hs ho).mono fun e w' ⟨h1, q, h2⟩ => ⟨by rw [h1, decide_eq_true rfl], by rw [h2]; exact below_drewN (Below.refl _ _) q⟩
set_option maxRecDepth 100000 in
set_option maxHeartbeats 8000000 in
/-- dibberlaw01.BedTurns -/
theorem f12_any (N S : Int) (A : Option Addr) (n c : Nat) (b : List (List Int)) (w : World) (hs : CameB w A n c b) (ht : Tab w) :
    Calls Tryd.prog 12 #[.int .i64 N, .int .i64 S, .slice A n c] w fun e w' => e = .returned (.bool true) ∧ Below w.heap.size w w' := by
  have K16 := Lib.hid (f16_any A c n (b.map List.length) w hs.1)
  have K17 : Hid (∀ W, Below w.heap.size w W → Calls Tryd.prog 17 #[] W fun e w' => e = .returned (.bool true) ∧ Below W.heap.size W w') := Lib.hid fun W h => f17_any W (ht.below h)
  cases hf : fewB (b.map List.length)
  · rw [hf] at K16
    clear hs hf ht
    go_enter Tryd.func12, Tryd.ntmps12
    go_wp2_with fail
    refine K16.out.mono ?_
    rintro e w1 ⟨rfl, rfl⟩
    go_wp2_with fail
    refine (K17.out _ (Below.refl _ _)).mono ?_
    rintro e w2 ⟨rfl, hb⟩
    have HB := Lib.hid hb
    clear hb
    go_wp2
    go_ret
    exact ⟨rfl, HB.out⟩
  · rw [hf] at K16
    have HB := Lib.hid (hs.beds hf)
    clear hs hf ht
    go_enter Tryd.func12, Tryd.ntmps12
    go_wp2_with fail
    refine K16.out.mono ?_
    rintro e w1 ⟨rfl, rfl⟩
    go_wp2_with fail
    refine (f38_any N S w).mono ?_
    rintro e w2 ⟨A2, k2, c2, rfl, hN2, hb2⟩
    have B2 := Lib.hid hb2
    have N2 := Lib.hid hN2
    clear hb2 hN2
    go_wp2_with fail
    refine (f40_any N S w2).mono ?_
    rintro e w3 ⟨A3, k3, c3, rfl, hN3, hb3⟩
    have B3 := Lib.hid (below_step B2.out hb3)
    have K20 := Lib.hid (f20_true A2 A3 k2 c2 k3 c3 (cycG N S) w3 (N2.out.below hb3) hN3)
    generalize cycE N S = x1 at *
    have h1 : (x1 != x1) = false := by simp
    clear hb3 hN3 N2 B2
    go_wp2_with fail
    refine K20.out.mono ?_
    rintro e w4 ⟨rfl, hb4⟩
    have B4 := Lib.hid (below_step B3.out hb4)
    clear hb4 B3 K20
    go_wp2_with fail
    refine (f41_any A n c b w4 (HB.out.below B4.out)).mono ?_
    rintro e w5 ⟨rfl, hb5⟩
    have B5 := Lib.hid (below_step B4.out hb5)
    clear hb5 B4
    go_wp2_with fail
    refine (f42_any A n c b w5 (HB.out.below B5.out)).mono ?_
    rintro e w6 ⟨rfl, hb6⟩
    have B6 := Lib.hid (below_step B5.out hb6)
    clear hb6 B5
    generalize sqC b = x2 at *
    have h2 : (x2 != x2) = false := by simp
    obtain ⟨x3, hx3⟩ : ∃ z, z = trE b := ⟨_, rfl⟩
    have h3 : (x3 != x3) = false := by simp
    have h4 : (x3 == x3) = true := by simp
    have K43 : Hid (Calls Tryd.prog 43 #[.slice A n c] w6 fun e w' => ∃ A1 k1 c1 A2 k2 c2, e = .returned (.tuple #[.slice A1 k1 c1, .slice A2 k2 c2, .int .i64 x3]) ∧ Beds w' A1 k1 c1 (tuX b) ∧ Beds w' A2 k2 c2 (tuY b) ∧ Below w6.heap.size w6 w') := Lib.hid (by rw [hx3]; exact f43_any A n c b w6 (HB.out.below B6.out))
    have K44 : Hid (∀ W, Below w.heap.size w W → Calls Tryd.prog 44 #[.slice A n c] W fun e w' => ∃ A1 k1 c1 A2 k2 c2, e = .returned (.tuple #[.slice A1 k1 c1, .slice A2 k2 c2, .int .i64 x3]) ∧ Beds w' A1 k1 c1 (tuX b) ∧ Beds w' A2 k2 c2 (tuY b) ∧ Below W.heap.size W w') := Lib.hid fun W h => by rw [hx3]; exact f44_any A n c b W (HB.out.below h)
    rw [← hx3]
    clear hx3
    go_wp2_with fail
    refine K43.out.mono ?_
    rintro e w7 ⟨A4, k4, c4, A5, k5, c5, rfl, hX, hY, hb7⟩
    have B7 := Lib.hid (below_step B6.out hb7)
    have HX := Lib.hid hX
    have HY := Lib.hid hY
    clear hX hY hb7 B6 K43
    go_wp2_with fail
    refine (K44.out w7 B7.out).mono ?_
    rintro e w8 ⟨A6, k6, c6, A7, k7, c7, rfl, hX8, hY8, hb8⟩
    have B8 := Lib.hid (below_step B7.out hb8)
    have KX := Lib.hid (f20_true A4 A6 k4 c4 k6 c6 (tuX b) w8 (HX.out.below hb8) hX8)
    have HY7 := Lib.hid (HY.out.below hb8)
    have HY8 := Lib.hid hY8
    clear hX8 hY8 hb8 B7 K44 HX HY
    go_wp2_with fail
    refine KX.out.mono ?_
    rintro e w9 ⟨rfl, hb9⟩
    have B9 := Lib.hid (below_step B8.out hb9)
    have KY := Lib.hid (f20_true A5 A7 k5 c5 k7 c7 (tuY b) w9 (HY7.out.below hb9) (HY8.out.below hb9))
    clear hb9 B8 KX
    go_wp2_with fail
    refine KY.out.mono ?_
    rintro e w10 ⟨rfl, hb10⟩
    have B10 := Lib.hid (below_step B9.out hb10)
    clear hb10 B9 KY
    go_wp2_with fail
    refine (K17.out w10 B10.out).mono ?_
    rintro e w11 ⟨rfl, hb11⟩
    have B11 := Lib.hid (below_step B10.out hb11)
    clear hb11
    go_wp2
    go_ret
    exact ⟨rfl, B11.out⟩
end Go.Proofs.YtiodednhadnekaaDoor
