/- Walks: the specification's Mates, with truth values for the pairs that were seen. -/
import Derived.Test.YtiodednhadnekaaDoorW56
namespace Go.Proofs.YtiodednhadnekaaDoor
open Go.RowKit Go.Deep
attribute [local go_sem ↓] Go.wp_at_zero Go.wp_at_succ

/-! ### a block of truth values -/
def OwnB (w : World) (g : Nat) (U : List Bool) : Prop := w.heap[g]? = some (.cells (U.map Value.bool).toArray 4 (0, 0))
section
variable {w w' : World} {g : Nat} {U : List Bool}
theorem OwnB.lt (h : OwnB w g U) : g < w.heap.size := by
  rcases Nat.lt_or_ge g w.heap.size with hlt | hge
  · exact hlt
  · unfold OwnB at h; rw [Array.getElem?_eq_none hge] at h; cases h
theorem OwnB.cell (h : OwnB w g U) (j : Nat) (hj : j < U.length) : w.cell? ⟨g, j, none⟩ = some (.bool (U.getD j false)) := by
  rw [cell_of_row w g j _ 4 (0, 0) h]
  simp [hj]
theorem OwnB.frozen (h : OwnB w g U) (j : Nat) : w.frozen? ⟨g, j, none⟩ = false := by
  unfold OwnB at h
  simp [World.frozen?, h]
theorem OwnB.drewN (h : OwnB w g U) (m : Nat) : OwnB (w.drewN m) g U := h
theorem OwnB.below (h : OwnB w g U) (hb : Below w.heap.size w w') : OwnB w' g U := (hb.block g h.lt).trans h
theorem OwnB.far (h : OwnB w g U) {p : Addr} (hp : g ≠ p.block) (u : Value) : OwnB (w.setCell p u) g U := (Below.heap_setCell w p u g hp).trans h
theorem OwnB.set_ (h : OwnB w g U) (j : Nat) (v : Bool) : OwnB (w.setCell ⟨g, j, none⟩ (.bool v)) g (U.set j v) := by
  unfold OwnB at h ⊢
  simp [World.setCell, Array.getElem?_modify, h, List.map_set]
theorem OwnB.made (w : World) (n : Nat) : OwnB (w.alloc (.cells (List.replicate n (Value.bool false)).toArray 4)) w.heap.size (List.replicate n false) := by
  unfold OwnB
  rw [List.map_replicate]
  exact heap_alloc_new w _
end
/-! ### the pairs as numbers -/
def codeF (n : Nat) (a b : List (List Int)) (i : Nat) : Nat := (cl n a i).toNat * n + (cl n b i).toNat
def seenL (n : Nat) (a b : List (List Int)) (p : Nat) : List Bool := (List.range (n * n)).map fun k => (List.range p).any fun i => codeF n a b i == k
theorem seenL_len (n : Nat) (a b : List (List Int)) (p : Nat) : (seenL n a b p).length = n * n := by simp [seenL]
theorem seenL_zero (n : Nat) (a b : List (List Int)) : seenL n a b 0 = List.replicate (n * n) false := by
  apply List.ext_getElem (by simp [seenL])
  intro i _ _
  simp [seenL]
theorem seenL_succ (n : Nat) (a b : List (List Int)) (p : Nat) : seenL n a b (p + 1) = (seenL n a b p).set (codeF n a b p) true := by
  apply List.ext_getElem (by simp [seenL])
  intro i h1 h2
  simp only [seenL, List.getElem_map, List.getElem_range, List.getElem_set, List.range_succ, List.any_append, List.any_cons, List.any_nil, Bool.or_false]
  by_cases e : codeF n a b p = i
  · rw [if_pos e]; simp [e]
  · rw [if_neg e]; simp [e]
theorem seenL_get {n : Nat} (a b : List (List Int)) (p : Nat) {k : Nat} (hk : k < n * n) : (seenL n a b p).getD k false = (List.range p).any fun i => codeF n a b i == k := by
  simp [seenL, List.getD_eq_getElem?_getD, hk]
theorem code_inj {n : Nat} {x y u v : Int} (hx : 0 ≤ x) (hu : 0 ≤ u) (hy : 0 ≤ y ∧ y < n) (hv : 0 ≤ v ∧ v < n) (e : x.toNat * n + y.toNat = u.toNat * n + v.toNat) : x = u ∧ y = v := by
  have hn : 0 < n := by omega
  have h1 : y.toNat < n := by omega
  have h2 : v.toNat < n := by omega
  have e1 := congrArg (· / n) e
  have e2 := congrArg (· % n) e
  simp only [Nat.add_comm _ y.toNat, Nat.add_comm _ v.toNat, Nat.add_mul_div_right _ _ hn, Nat.div_eq_of_lt h1, Nat.div_eq_of_lt h2, Nat.add_mul_mod_self_right, Nat.mod_eq_of_lt h1, Nat.mod_eq_of_lt h2] at e1 e2
  omega
theorem code_hit {n : Nat} {a b : List (List Int)} (fa : IsFull n a) (fb : IsFull n b) {p : Nat} (hp : p < n * n) : ((List.range p).any fun i => codeF n a b i == codeF n a b p) = hitP n a b p := by
  have h : ∀ i, i < p → (codeF n a b i == codeF n a b p) = (pairF n a b i == pairF n a b p) := fun i hi => by
    have hin : i < n * n := by omega
    obtain ⟨i1, i2, _⟩ := idx_split hin
    obtain ⟨p1, p2, _⟩ := idx_split hp
    have a1 := fa.lo _ _ i1 i2
    have a2 := fa.lo _ _ p1 p2
    have b1 := fb.lo _ _ i1 i2
    have b2 := fb.lo _ _ p1 p2
    rw [pairF_at hin, pairF_at hp, Bool.eq_iff_iff]
    simp only [beq_iff_eq, Prod.mk.injEq]
    constructor
    · intro e
      exact code_inj a1.1 a2.1 b1 b2 e
    · rintro ⟨e1, e2⟩
      unfold codeF
      rw [e1, e2]
  unfold hitP
  rw [Bool.eq_iff_iff, List.any_eq_true, List.any_eq_true]
  constructor
  · rintro ⟨i, hi, e⟩; exact ⟨i, hi, by rw [← h i (List.mem_range.1 hi)]; exact e⟩
  · rintro ⟨i, hi, e⟩; exact ⟨i, hi, by rw [h i (List.mem_range.1 hi)]; exact e⟩
theorem code_lt {n : Nat} {a b : List (List Int)} (fa : IsFull n a) (fb : IsFull n b) {p : Nat} (hp : p < n * n) : codeF n a b p < n * n := by
  obtain ⟨p1, p2, _⟩ := idx_split hp
  have a2 := fa.lo _ _ p1 p2
  have b2 := fb.lo _ _ p1 p2
  exact idx_lt (by unfold cl; omega) (by unfold cl; omega)
set_option maxRecDepth 100000 in
set_option maxHeartbeats 8000000 in
/-- dibberref01.mates -/
theorem f78_any (A B : Option Addr) (n c d : Nat) (a b : List (List Int)) (w : World) (ha : Beds w A n c a) (hb : Beds w B n d b) (fa : IsFull n a) (fb : IsFull n b) (hn : 0 < n) (hn7 : n ≤ 7) :
    Calls Tryd.prog 78 #[.slice A n c, .slice B n d] w fun e w' => e = .returned (.bool (orthB n a b)) ∧ Below w.heap.size w w' := by
  have HA := Lib.hid ha
  have HB := Lib.hid hb
  have HFA := Lib.hid fa
  have HFB := Lib.hid fb
  obtain ⟨N, hN⟩ : ∃ N, N = n * n := ⟨_, rfl⟩
  have hN49 : N ≤ 49 := by rw [hN]; exact Nat.mul_le_mul hn7 hn7
  have eN : (n : Int) * (n : Int) = (N : Int) := by rw [hN]; simp
  have hmk := make_bools N (by omega)
  obtain ⟨w0, hw0⟩ : ∃ z, z = w.alloc (.cells (List.replicate N (Value.bool false)).toArray 4) := ⟨_, rfl⟩
  have U0 : Hid (OwnB w0 w.heap.size (seenL n a b 0)) := Lib.hid (by rw [hw0, seenL_zero, ← hN]; exact OwnB.made w N)
  have B0 : Hid (Below w.heap.size w w0) := Lib.hid (by rw [hw0]; exact below_alloc w _)
  simp only [List.toArray_replicate] at hw0
  have HN := Lib.hid hN
  obtain ⟨ga, oa, hA0, _⟩ := ha.at_ hn
  obtain ⟨gb, ob, hB0, _⟩ := hb.at_ hn
  subst hA0 hB0
  clear ha hb fa fb hN
  go_enter Tryd.func78, Tryd.ntmps78
  go_wp2
  rw [← hw0]
  clear hw0 hmk
  go_loopw [7] (fun ri wr => ∃ r : Nat, r ≤ n ∧ ri = .int .i64 (r : Int) ∧ OwnB wr w.heap.size (seenL n a b (r * n)) ∧ Below w.heap.size w wr ∧ Hid (∀ p, p < r * n → hitP n a b p = false)) (fun ri _ => n - (intOf ri).toNat)
  case atStart => exact ⟨0, by omega, rfl, by rw [Nat.zero_mul]; exact U0.out, B0.out, fun p hp => by omega⟩
  case round => as_aux_lemma =>
    obtain ⟨r, hr, rfl, hS, hbel, hno⟩ := hrel
    by_cases hrn : r < n
    · have HS := Lib.hid hS
      have HBL := Lib.hid hbel
      have HNO := Lib.hid hno.out
      have r0 : (0 : Int) ≤ (r : Int) := by omega
      have rn : (r : Int) < (n : Int) := by omega
      clear hS hbel hno
      go_wp2
      go_loopw [8] (fun ci wr => ∃ k : Nat, k ≤ n ∧ ci = .int .i64 (k : Int) ∧ OwnB wr w.heap.size (seenL n a b (r * n + k)) ∧ Below w.heap.size w wr ∧ Hid (∀ p, p < r * n + k → hitP n a b p = false)) (fun ci _ => n - (intOf ci).toNat)
      case atStart => exact ⟨0, by omega, rfl, HS.out, HBL.out, HNO.out⟩
      case round => as_aux_lemma =>
        obtain ⟨k, hk, rfl, hS, hbel, hno⟩ := hrel
        by_cases hkn : k < n
        · obtain ⟨g1, o1, e1, A1, d1, hc1, _, _, hI1⟩ := (HA.out.below hbel).at_ hrn
          injection e1 with e1
          injection e1 with e1 e2
          subst e1 e2
          rw [HFA.out.shape.2 r hrn] at hc1 hI1
          obtain ⟨b1, p1, rfl, hc2⟩ := hI1.at_ hkn
          obtain ⟨g3, o3, e3, B3, d3, hc3, _, _, hI3⟩ := (HB.out.below hbel).at_ hrn
          injection e3 with e3
          injection e3 with e1 e2
          subst e1 e2
          rw [HFB.out.shape.2 r hrn] at hc3 hI3
          obtain ⟨b3, p3, rfl, hc4⟩ := hI3.at_ hkn
          have hpn := idx_lt hrn hkn
          have hx := HFA.out.lo r k hrn hkn
          have hy := HFB.out.lo r k hrn hkn
          obtain ⟨X, hX⟩ := nat_of (gAt a r k) hx.1
          obtain ⟨Y, hY⟩ := nat_of (gAt b r k) hy.1
          have hXn : X < n := by omega
          have hYn : Y < n := by omega
          rw [show (a.getD r []).getD k 0 = (X : Int) from hX] at hc2
          rw [show (b.getD r []).getD k 0 = (Y : Int) from hY] at hc4
          obtain ⟨p, hp⟩ : ∃ p, p = r * n + k := ⟨_, rfl⟩
          obtain ⟨Q, hQ⟩ : ∃ Q, Q = X * n := ⟨_, rfl⟩
          obtain ⟨Z, hZ⟩ : ∃ Z, Z = Q + Y := ⟨_, rfl⟩
          have hcode : codeF n a b p = Z := by
            unfold codeF
            rw [hp, cl_at a hkn, cl_at b hkn, hX, hY, hZ, hQ]; rfl
          rw [← hp] at hS hno hpn
          have hZN : Z < N := by rw [← hcode, HN.out]; exact code_lt HFA.out HFB.out hpn
          have q1 := hS.cell Z (by rw [seenL_len, ← HN.out]; exact hZN)
          rw [seenL_get a b p (by rw [← HN.out]; exact hZN), ← hcode, code_hit HFA.out HFB.out hpn, hcode] at q1
          have q2 := hS.frozen Z
          have HU : Hid (∀ q, OwnB ((wr.drewN q).setCell ⟨w.heap.size, Z, none⟩ (.bool true)) w.heap.size (seenL n a b (p + 1))) := Lib.hid fun q => by
            have h := (hS.drewN q).set_ Z true
            rw [← hcode, ← seenL_succ, hcode] at h
            exact h
          have HB6 : Hid (∀ q, Below w.heap.size w ((wr.drewN q).setCell ⟨w.heap.size, Z, none⟩ (.bool true))) := Lib.hid fun q => (below_drewN hbel q).setCell (Nat.le_refl _) _
          have HB7 := Lib.hid hbel
          have hQ49 : Q ≤ 49 := by rw [hQ]; exact Nat.le_trans (Nat.mul_le_mul (show X ≤ 7 by omega) hn7) (by decide)
          have x1 : (X : Int) * (n : Int) = (Q : Int) := by rw [hQ]; simp
          have x2 : IntKind.i64.wrap (Q : Int) = (Q : Int) := IntWalk.i64_in _ (by omega)
          have x3 : IntKind.i64.wrap ((Q : Int) + (Y : Int)) = (Z : Int) := (IntWalk.i64_in _ (by omega)).trans (by omega)
          have x4 : (Q : Int) + (Y : Int) = (Z : Int) := by omega
          have z0 : (0 : Int) ≤ (Z : Int) := by omega
          have zN : (Z : Int) < (N : Int) := by omega
          have k0 : (0 : Int) ≤ (k : Int) := by omega
          have kn : (k : Int) < (n : Int) := by omega
          have HNO2 := Lib.hid hno.out
          have HP := Lib.hid hp
          clear hI1 hI3 hS hno hp hQ hZ hcode hx hy hX hY hbel
          cases hh : hitP n a b p
          · rw [hh] at q1
            have HN3 : Hid (∀ q, q < p + 1 → hitP n a b q = false) := Lib.hid fun q hq => by
              by_cases e : q = p
              · rw [e]; exact hh
              · exact HNO2.out q (by omega)
            clear hh
            go_wp2
            go_quiet (fail)
            go_wp2
            go_roundw
            case rel => exact ⟨k + 1, by omega, by go_num, by rw [← Nat.add_assoc, ← HP.out]; exact HU.out _, HB6.out _, by rw [← Nat.add_assoc, ← HP.out]; exact HN3.out⟩
            case measure => simp [intOf]; omega
          · rw [hh] at q1
            have HO : Hid (orthB n a b = false) := Lib.hid (orthB_hit hpn hh)
            clear hh
            go_wp2
            go_quiet (fail)
            go_wp2
            go_ret
            exact ⟨by rw [HO.out]; rfl, below_drewN HB7.out _⟩
        · obtain rfl : k = n := by omega
          have HS2 : Hid (OwnB wr w.heap.size (seenL k a b ((r + 1) * k))) := Lib.hid (by rw [Nat.succ_mul]; exact hS)
          have HN2 : Hid (∀ p, p < (r + 1) * k → hitP k a b p = false) := Lib.hid (by rw [Nat.succ_mul]; exact hno.out)
          have HB2 := Lib.hid hbel
          clear hS hno hbel
          go_wp2
          go_roundw
          case rel => exact ⟨r + 1, by omega, by go_num, HS2.out, HB2.out, HN2.out⟩
          case measure => simp [intOf]; omega
    · obtain rfl : r = n := by omega
      have HO : Hid (orthB r a b = true) := Lib.hid (orthB_miss hno.out)
      have HB2 := Lib.hid hbel
      clear hS hno hbel
      go_wp2
      go_ret
      exact ⟨by rw [HO.out]; rfl, HB2.out⟩
set_option maxRecDepth 100000 in
set_option maxHeartbeats 8000000 in
/-- dibberref01.Mates -/
theorem f33_any (A B : Option Addr) (n m c d : Nat) (a b : List (List Int)) (w : World) (ha : Beds w A n c a) (hb : Beds w B m d b) :
    Calls Tryd.prog 33 #[.slice A n c, .slice B m d] w fun e w' => e = .returned (.tuple #[.bool (matesB a b), .int .i64 (matesE a b)]) ∧ Below w.heap.size w w' := by
  have K1 := Lib.hid (f21_any A n c a w ha)
  have hla := ha.len
  have hlb := hb.len
  cases h1 : fullB a
  · rw [h1] at K1
    have HE : Hid (matesB a b = false ∧ matesE a b = 2) := Lib.hid (by unfold matesB matesE; rw [h1]; simp)
    clear ha hb h1
    go_enter Tryd.func33, Tryd.ntmps33
    go_wp2_with fail
    refine K1.out.mono ?_
    rintro e w1 ⟨rfl, rfl⟩
    go_wp2
    go_ret2
    exact ⟨by rw [HE.out.1, HE.out.2]; rfl, Below.refl _ _⟩
  have K2 : Hid (∀ W, Below w.heap.size w W → Calls Tryd.prog 21 #[.slice B m d] W fun e w' => e = .returned (.bool (fullB b)) ∧ W = w') := Lib.hid fun W h => f21_any B m d b W (hb.below h)
  rw [h1] at K1
  cases h2 : fullB b
  · rw [h2] at K2
    have HE : Hid (matesB a b = false ∧ matesE a b = 2) := Lib.hid (by unfold matesB matesE; rw [h1, h2]; simp)
    clear ha hb h1 h2
    go_enter Tryd.func33, Tryd.ntmps33
    go_wp2_with fail
    refine K1.out.mono ?_
    rintro e w1 ⟨rfl, rfl⟩
    go_wp2_with fail
    refine (K2.out w (Below.refl _ _)).mono ?_
    rintro e w2 ⟨rfl, rfl⟩
    go_wp2
    go_ret2
    exact ⟨by rw [HE.out.1, HE.out.2]; rfl, Below.refl _ _⟩
  rw [h2] at K2
  by_cases h3 : n = m
  · subst h3
    obtain ⟨n1, n7, fa⟩ := fullB_iff.1 h1
    obtain ⟨_, _, fb⟩ := fullB_iff.1 h2
    rw [hla] at n1 n7 fa
    rw [hlb] at fb
    have HE : Hid (matesB a b = orthB n a b ∧ matesE a b = 0) := Lib.hid (by unfold matesB matesE; rw [h1, h2, hla, hlb]; simp)
    have K3 : Hid (∀ W, Below w.heap.size w W → Calls Tryd.prog 78 #[.slice A n c, .slice B n d] W fun e w' => e = .returned (.bool (orthB n a b)) ∧ Below W.heap.size W w') := Lib.hid fun W h => f78_any A B n c d a b W (ha.below h) (hb.below h) fa fb n1 n7
    clear ha hb h1 h2 fa fb
    go_enter Tryd.func33, Tryd.ntmps33
    go_wp2_with fail
    refine K1.out.mono ?_
    rintro e w1 ⟨rfl, rfl⟩
    go_wp2_with fail
    refine (K2.out w (Below.refl _ _)).mono ?_
    rintro e w2 ⟨rfl, rfl⟩
    go_wp2_with fail
    refine (K3.out w (Below.refl _ _)).mono ?_
    rintro e w3 ⟨rfl, hb3⟩
    have HB3 := Lib.hid hb3
    clear hb3
    generalize orthB n a b = t at *
    go_wp2
    go_ret2
    exact ⟨by rw [HE.out.1, HE.out.2]; rfl, HB3.out⟩
  · have HE : Hid (matesB a b = false ∧ matesE a b = 2) := by
      have h4 : ¬ (fullB a = true ∧ fullB b = true ∧ a.length = b.length) := fun h => h3 (by rw [← hla, ← hlb]; exact h.2.2)
      unfold matesB matesE; rw [if_neg h4, if_neg h4]; exact ⟨rfl, rfl⟩
    have hq : ((n : Int) != (m : Int)) = true := by simp; omega
    have hq2 : (n != m) = true := by simp; omega
    clear ha hb h1 h2
    go_enter Tryd.func33, Tryd.ntmps33
    go_wp2_with fail
    refine K1.out.mono ?_
    rintro e w1 ⟨rfl, rfl⟩
    go_wp2_with fail
    refine (K2.out w (Below.refl _ _)).mono ?_
    rintro e w2 ⟨rfl, rfl⟩
    go_wp2
    go_ret2
    exact ⟨by rw [HE.out.1, HE.out.2]; rfl, Below.refl _ _⟩
end Go.Proofs.YtiodednhadnekaaDoor
