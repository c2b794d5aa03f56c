/- Walks: the groups of a garden. -/
import Derived.Test.YtmepndnckcpgjaaGreatF1
import Derived.Test.YtmepndnckcpgjaaGreatBase7
import Derived.Deep.QuietTactic
namespace Go.Proofs.YtmepndnckcpgjaaGreat
open Go.RowKit
theorem below_draw {w w' : World} (h : ∃ k, w' = w.drewN k) : Below w.heap.size w w' := by obtain ⟨k, rfl⟩ := h; exact below_drewN (Below.refl _ _) k
theorem setD (W : List Int) (k : Nat) (v : Int) (h : k < W.length) : (W.set k v).getD k 0 = v := by
  simp [List.getD_eq_getElem?_getD, h]
theorem and_pow_ne {m i : Nat} (h : m.testBit i = true) : m &&& 2 ^ i ≠ 0 := fun e => by
  have h1 : (m &&& 2 ^ i).testBit i = true := by rw [Nat.testBit_and, h, Nat.testBit_two_pow_self]; rfl
  rw [e, Nat.zero_testBit] at h1
  cases h1
theorem and_pow_no {m i : Nat} (h : m.testBit i = false) : m &&& 2 ^ i = 0 := by
  apply Nat.eq_of_testBit_eq
  intro j
  rw [Nat.testBit_and, Nat.testBit_two_pow, Nat.zero_testBit]
  by_cases e : i = j
  · subst e; simp [h]
  · simp [e]
/-! ### plain -/
def relab (g : List Nat) (a b : Nat) : List Nat := g.map fun x => if x = b then a else x
def relTo (g : List Nat) (a b k : Nat) : List Nat := (List.range g.length).map fun i => if i < k ∧ g.getD i 0 = b then a else g.getD i 0
theorem relTo_zero (g : List Nat) (a b : Nat) : relTo g a b 0 = g := by
  apply List.ext_getElem
  · simp [relTo]
  · intro i h1 h2
    simp [relTo, List.getD_eq_getElem?_getD, h2]
theorem relTo_all (g : List Nat) (a b : Nat) : relTo g a b g.length = relab g a b := by
  apply List.ext_getElem
  · simp [relTo, relab]
  · intro i h1 h2
    have h3 : i < g.length := by simpa [relab] using h2
    simp [relTo, relab, List.getD_eq_getElem?_getD, h3]
theorem relTo_len (g : List Nat) (a b k : Nat) : (relTo g a b k).length = g.length := by simp [relTo]
theorem relTo_get {g : List Nat} {a b k : Nat} (hk : k < g.length) : (relTo g a b k).getD k 0 = g.getD k 0 := by
  simp [relTo, List.getD_eq_getElem?_getD, hk]
theorem relTo_set {g : List Nat} {a b k : Nat} (h : g.getD k 0 = b) : relTo g a b (k + 1) = (relTo g a b k).set k a := by
  apply List.ext_getElem
  · rw [List.length_set, relTo_len, relTo_len]
  · intro i h1 h2
    rw [List.getElem_set]
    rw [relTo_len] at h1
    simp only [relTo, List.getElem_map, List.getElem_range]
    by_cases e : k = i
    · subst e
      rw [if_pos rfl, if_pos ⟨by omega, h⟩]
    · rw [if_neg e]
      by_cases e2 : i < k
      · by_cases e3 : g.getD i 0 = b
        · rw [if_pos ⟨by omega, e3⟩, if_pos ⟨e2, e3⟩]
        · rw [if_neg (fun h => e3 h.2), if_neg (fun h => e3 h.2)]
      · rw [if_neg (fun h => by omega), if_neg (fun h => by omega)]
theorem relTo_keep {g : List Nat} {a b k : Nat} (h : g.getD k 0 ≠ b) : relTo g a b (k + 1) = relTo g a b k := by
  unfold relTo
  refine List.map_congr_left fun i _ => ?_
  by_cases e : i < k
  · by_cases e3 : g.getD i 0 = b
    · rw [if_pos ⟨by omega, e3⟩, if_pos ⟨e, e3⟩]
    · rw [if_neg (fun h => e3 h.2), if_neg (fun h => e3 h.2)]
  · by_cases e2 : i = k
    · subst e2
      rw [if_neg (fun h2 => h h2.2), if_neg (fun h2 => h h2.2)]
    · rw [if_neg (fun h2 => by have := h2.1; omega), if_neg (fun h2 => e h2.1)]
theorem zs_set (l : List Nat) (k v : Nat) : zs (l.set k v) = (zs l).set k (v : Int) := by unfold zs; rw [List.map_set]; rfl
/-- 0, 1, .. as far as k; 0 behind. -/
def iniTo (n k : Nat) : List Nat := (List.range n).map fun i => if i < k then i else 0
theorem iniTo_zero (n : Nat) : zs (iniTo n 0) = List.replicate n 0 := by
  apply List.ext_getElem
  · simp [zs, iniTo]
  · intro i h1 h2
    simp [zs, iniTo]
theorem iniTo_all (n : Nat) : iniTo n n = List.range n := by
  apply List.ext_getElem
  · simp [iniTo]
  · intro i h1 h2
    have h3 : i < n := by simpa using h2
    simp [iniTo, h3]
theorem iniTo_len (n k : Nat) : (iniTo n k).length = n := by simp [iniTo]
theorem iniTo_succ (n k : Nat) : zs (iniTo n (k + 1)) = (zs (iniTo n k)).set k (k : Int) := by
  rw [← zs_set]
  congr 1
  apply List.ext_getElem
  · simp [iniTo]
  · intro i h1 h2
    rw [List.getElem_set]
    simp only [iniTo, List.getElem_map, List.getElem_range]
    by_cases e : k = i
    · subst e; rw [if_pos rfl, if_pos (by omega)]
    · rw [if_neg e]
      by_cases e2 : i < k
      · rw [if_pos e2, if_pos (by omega)]
      · rw [if_neg e2, if_neg (by omega)]
def fA (fs : List (Int × Int)) (k : Nat) : Nat := (fs.getD k (0, 0)).1.toNat
def fC (fs : List (Int × Int)) (k : Nat) : Nat := (fs.getD k (0, 0)).2.toNat
def gSt (n : Nat) (fs : List (Int × Int)) (set : Nat) : Nat → List Nat × Int
  | 0 => (List.range n, n)
  | k + 1 => let s := gSt n fs set k
    let a := s.1.getD (fA fs k) 0
    let b := s.1.getD (fC fs k) 0
    if set.testBit k = false ∨ a = b then s else (relab s.1 a b, s.2 - 1)
theorem gSt_len (n : Nat) (fs : List (Int × Int)) (set : Nat) : ∀ k, (gSt n fs set k).1.length = n
  | 0 => by simp [gSt]
  | k + 1 => by
    have ih := gSt_len n fs set k
    unfold gSt
    simp only
    split
    · exact ih
    · simp [relab, ih]
theorem gSt_in (n : Nat) (fs : List (Int × Int)) (set : Nat) : ∀ k, (n : Int) - k ≤ (gSt n fs set k).2 ∧ (gSt n fs set k).2 ≤ n
  | 0 => by simp [gSt]
  | k + 1 => by
    have ih := gSt_in n fs set k
    unfold gSt
    simp only
    split
    · omega
    · simp only; omega
def groupsN (n : Nat) (fs : List (Int × Int)) (set : Nat) : Int := (gSt n fs set fs.length).2
theorem garE_facts {n : Nat} {fs : List (Int × Int)} (h : garE n fs = 0) : 1 ≤ n ∧ n ≤ 8 ∧ fs.length ≤ 14 ∧ ∀ k, k < fs.length → 0 ≤ (fs.getD k (0, 0)).1 ∧ (fs.getD k (0, 0)).1 < n ∧ 0 ≤ (fs.getD k (0, 0)).2 ∧ (fs.getD k (0, 0)).2 < n := by
  unfold garE at h
  by_cases h1 : (n : Int) < 1 ∨ (8 : Int) < n
  · rw [if_pos h1] at h; cases h
  · by_cases h3 : 14 < fs.length
    · rw [if_neg h1, if_pos h3] at h; cases h
    · rw [if_neg h1, if_neg h3] at h
      have ha : fs.any (fB n) = false := by
        cases hv : fs.any (fB n)
        · rfl
        · rw [hv] at h; cases h
      refine ⟨by omega, by omega, by omega, fun k hk => ?_⟩
      rw [List.any_eq_false] at ha
      have h2 := ha fs[k] (List.getElem_mem hk)
      have e : fs.getD k (0, 0) = fs[k] := by simp [List.getD_eq_getElem?_getD, hk]
      rw [e]
      unfold fB at h2
      simp only [Bool.or_eq_true, decide_eq_true_eq, not_or] at h2
      omega
set_option maxRecDepth 100000 in
set_option maxHeartbeats 8000000 in
/-- (*garden).groups -/
theorem f32_any (p n : Nat) (A : Option Addr) (m c : Nat) (fs : List (Int × Int)) (set : Nat) (w : World) (hg : Gar w p n A m c fs) (h : garE n fs = 0) (hset : set < 16384) :
    Calls Tryz.prog 32 #[.pointer (some ⟨p, 0, none⟩), .int .i64 (set : Int)] w fun e w' => e = .returned (.int .i64 (groupsN n fs set)) ∧ Below w.heap.size w w' := by
  obtain ⟨h1, h8, h14, hfs⟩ := garE_facts h
  have hl := hg.fens.len
  rw [hl] at h14 hfs
  have HG := Lib.hid hg
  have HFS := Lib.hid hfs
  have HL : Hid (groupsN n fs set = (gSt n fs set m).2) := Lib.hid (by unfold groupsN; rw [hl])
  have HS1 : Hid (∀ k, gSt n fs set (k + 1) = if set.testBit k = false ∨ (gSt n fs set k).1.getD (fA fs k) 0 = (gSt n fs set k).1.getD (fC fs k) 0 then gSt n fs set k else (relab (gSt n fs set k).1 ((gSt n fs set k).1.getD (fA fs k) 0) ((gSt n fs set k).1.getD (fC fs k) 0), (gSt n fs set k).2 - 1)) := Lib.hid fun k => rfl
  have HLEN := Lib.hid (gSt_len n fs set)
  have HIN := Lib.hid (gSt_in n fs set)
  have HR0 : Hid (gSt n fs set 0 = (List.range n, (n : Int))) := Lib.hid rfl
  have hcn := hg.cn
  have hcf := hg.cf
  clear h hfs hg hl
  obtain ⟨Z, hZ⟩ : ∃ Z, Z = ((List.replicate n (0 : Int)).map (Value.int .i64)).toArray := ⟨_, rfl⟩
  have hmk := make_ints n (by omega)
  rw [← hZ] at hmk
  have HZ := Lib.hid hZ
  clear hZ
  have hcf2 : (w.alloc (.cells Z 3)).cell? ⟨p, 1, none⟩ = some (.slice A m c) := ((below_alloc w (.cells Z 3)).cell (lt_of_cell hcf)).trans hcf
  go_enter Tryz.func32, Tryz.ntmps32
  go_wp2
  go_loopw [6, 21] (fun _ ii wr => ∃ k : Nat, k ≤ n ∧ ii = .int .i64 (k : Int) ∧ Hid (Own wr w.heap.size (zs (iniTo n k))) ∧ Hid (Below w.heap.size w wr)) (fun _ ii _ => n - (intOf ii).toNat)
  case atStart => exact ⟨0, by omega, rfl, Lib.hid (by rw [HZ.out, iniTo_zero]; exact Own.made w n), Lib.hid (below_alloc _ _)⟩
  case round => as_aux_lemma =>
    obtain ⟨k, hk, rfl, HO, HB⟩ := hrel
    by_cases hkn : k < n
    · have c5 := HO.out.cell k (by rw [zs_len, iniTo_len]; exact hkn)
      have c6 := HO.out.frozen k
      have HI1 := Lib.hid (iniTo_succ n k)
      go_wp2
      go_roundw
      case rel => exact ⟨k + 1, by omega, by go_num, Lib.hid (by rw [HI1.out]; exact HO.out.set_ k _), Lib.hid (HB.out.setCell (Nat.le_refl _) _)⟩
      case measure => simp [intOf]; omega
    · obtain rfl : k = n := by omega
      have HO2 : Hid (Own wr w.heap.size (zs (gSt k fs set 0).1)) := Lib.hid (by rw [HR0.out]; have := HO.out; rw [iniTo_all] at this; exact this)
      obtain ⟨n, rfl⟩ : ∃ n, n = k := ⟨_, rfl⟩
      have q1 := (HB.out.cell (lt_of_cell hcn)).trans hcn
      have q2 := (HB.out.cell (lt_of_cell hcf)).trans hcf
      clear HO
      go_wp2
      go_loopw [7, 38] (fun oi ii wr => ∃ k : Nat, k ≤ m ∧ ii = .int .i64 (k : Int) ∧ oi = .int .i64 (gSt n fs set k).2 ∧ Hid (Own wr w.heap.size (zs (gSt n fs set k).1)) ∧ Hid (Below w.heap.size w wr)) (fun _ ii _ => m - (intOf ii).toNat)
      case atStart => exact ⟨0, by omega, rfl, by rw [HR0.out], HO2, HB⟩
      case round => as_aux_lemma =>
        obtain ⟨k, hk, rfl, rfl, HO, HB⟩ := hrel
        by_cases hkm : k < m
        · have hkm2 : (k : Int) < (m : Int) := by omega
          have k0 : (0 : Int) ≤ (k : Int) := by omega
          obtain ⟨b, off, rfl, c1, c2⟩ := (HG.out.fens.below HB.out).at_ hkm
          obtain ⟨f1, f2, f3, f4⟩ := HFS.out k hkm
          have HST := Lib.hid (HS1.out k)
          obtain ⟨x, hx⟩ := nat_of _ f1
          obtain ⟨y, hy⟩ := nat_of _ f3
          have hfa : fA fs k = x := by unfold fA; rw [hx]; rfl
          have hfc : fC fs k = y := by unfold fC; rw [hy]; rfl
          rw [hfa, hfc] at HST
          rw [hx] at c1 f2
          rw [hy] at c2 f4
          clear hx hy hfa hfc f1 f3
          obtain ⟨wt, rfl⟩ : ∃ z, z = wr := ⟨_, rfl⟩
          have hlen := HLEN.out k
          obtain ⟨i1, i2⟩ := HIN.out k
          obtain ⟨S, hS⟩ : ∃ S, S = gSt n fs set k := ⟨_, rfl⟩
          rw [← hS] at HST HO hlen i1 i2 ⊢
          have HS2 := Lib.hid hS
          clear hS
          obtain ⟨g, out⟩ := S
          simp only at HST HO hlen i1 i2 ⊢
          have f2' : x < n := by omega
          have f4' : y < n := by omega
          have o1 : Hid (Own (wt.alloc (.cells #[.int .i64 (x : Int), .int .i64 (y : Int)] 37)) w.heap.size (zs g)) := Lib.hid (HO.out.alloc _)
          have B1 : Hid (Below w.heap.size w (wt.alloc (.cells #[.int .i64 (x : Int), .int .i64 (y : Int)] 37))) := Lib.hid (HB.out.alloc HB.out.size _)
          have ca := o1.out.cell x (by rw [zs_len, hlen]; exact f2')
          have cb := o1.out.cell y (by rw [zs_len, hlen]; exact f4')
          rw [zs_get] at ca cb
          generalize hga : g.getD x 0 = a at *
          generalize hgb : g.getD y 0 = b' at *
          clear hga hgb
          have x0 : (0 : Int) ≤ (x : Int) := by omega
          have y0 : (0 : Int) ≤ (y : Int) := by omega
          obtain ⟨N, hN, hshl⟩ := shl_one k (by omega)
          have hN2 : N ≤ 16384 := by rw [hN]; exact Nat.le_trans (Nat.pow_le_pow_right (by omega) (show k ≤ 14 by omega)) (by decide)
          have e1 := bits_and_nat set N (by omega) (by omega)
          by_cases hskip : set.testBit k = false ∨ a = b'
          · have HST2 : Hid (gSt n fs set (k + 1) = (g, out)) := Lib.hid (by rw [HST.out, if_pos hskip])
            have hz : ((((set &&& N : Nat) : Int) == 0) || ((a : Int) == (b' : Int))) = true := by
              rcases hskip with h | h
              · rw [hN, and_pow_no h]; rfl
              · subst h; simp
            cases hz1 : (((set &&& N : Nat) : Int) == 0)
            · rw [hz1, Bool.false_or] at hz
              clear hskip hN HST
              go_wp2_with fail
              go_quiet (fail)
              go_wp2
              go_roundw
              case rel => exact ⟨k + 1, by omega, by go_num, by rw [HST2.out], Lib.hid (by rw [HST2.out]; exact o1.out.drewN _), Lib.hid (below_drewN B1.out _)⟩
              case measure => simp [intOf]; omega
            · clear hskip hN HST hz
              go_wp2_with fail
              go_quiet (fail)
              go_wp2
              go_roundw
              case rel => exact ⟨k + 1, by omega, by go_num, by rw [HST2.out], Lib.hid (by rw [HST2.out]; exact o1.out.drewN _), Lib.hid (below_drewN B1.out _)⟩
              case measure => simp [intOf]; omega
          · have HST2 : Hid (gSt n fs set (k + 1) = (relab g a b', out - 1)) := Lib.hid (by rw [HST.out, if_neg hskip])
            have hz1 : (((set &&& N : Nat) : Int) == 0) = false := by
              have h1 : set.testBit k = true := by
                cases hv : set.testBit k
                · exact absurd (.inl hv) hskip
                · rfl
              have := and_pow_ne h1
              rw [← hN] at this
              simp; omega
            have hz2 : ((a : Int) == (b' : Int)) = false := by
              have : a ≠ b' := fun e => hskip (.inr e)
              simp; omega
            have hw1 : IntKind.i64.wrap (out - 1) = out - 1 := IntWalk.i64_in _ (by omega)
            clear hskip hN HST
            go_wp2_with fail
            go_quiet (fail)
            have HRL := Lib.hid (relTo_len g a b')
            have HRA : Hid (relTo g a b' n = relab g a b') := Lib.hid (by rw [← hlen, relTo_all])
            have HRG : Hid (∀ t, t < n → (relTo g a b' t).getD t 0 = g.getD t 0) := Lib.hid fun t ht => relTo_get (by omega)
            have HRS : Hid (∀ t, t < n → g.getD t 0 = b' → relTo g a b' (t + 1) = (relTo g a b' t).set t a) := Lib.hid fun t _ h => relTo_set h
            have HRK : Hid (∀ t, g.getD t 0 ≠ b' → relTo g a b' (t + 1) = relTo g a b' t) := Lib.hid fun t h => relTo_keep h
            have HRZ := Lib.hid (relTo_zero g a b')
            go_wp2
            go_loopw [67] (fun ti wi => ∃ t : Nat, t ≤ n ∧ ti = .int .i64 (t : Int) ∧ Hid (Own wi w.heap.size (zs (relTo g a b' t))) ∧ Hid (Below w.heap.size w wi)) (fun ti _ => n - (intOf ti).toNat)
            case atStart => exact ⟨0, by omega, rfl, Lib.hid (by rw [HRZ.out]; exact o1.out.drewN _), Lib.hid (below_drewN B1.out _)⟩
            case round => as_aux_lemma =>
              obtain ⟨t, ht, rfl, HT, HW⟩ := hrel
              by_cases htn : t < n
              · have t0 : (0 : Int) ≤ (t : Int) := by omega
                have tn : (t : Int) < (n : Int) := by omega
                have d1 := HT.out.cell t (by rw [zs_len, HRL.out, hlen]; exact htn)
                have d2 := HT.out.frozen t
                rw [zs_get, HRG.out t htn] at d1
                have HS3 := Lib.hid (HRS.out t htn)
                have HS4 := Lib.hid (HRK.out t)
                generalize g.getD t 0 = v at *
                by_cases hv : v = b'
                · have HS5 := Lib.hid (HS3.out hv)
                  have hq : ((v : Int) == (b' : Int)) = true := by simp; omega
                  clear hv HS3 HS4
                  go_wp2
                  go_roundw
                  case rel => exact ⟨t + 1, by omega, by go_num, Lib.hid (by rw [HS5.out, zs_set]; exact HT.out.set_ t _), Lib.hid (HW.out.setCell (Nat.le_refl _) _)⟩
                  case measure => simp [intOf]; omega
                · have HS5 := Lib.hid (HS4.out hv)
                  have hq : ((v : Int) == (b' : Int)) = false := by simp; omega
                  clear hv HS3 HS4
                  go_wp2
                  go_roundw
                  case rel => exact ⟨t + 1, by omega, by go_num, Lib.hid (by rw [HS5.out]; exact HT.out), HW⟩
                  case measure => simp [intOf]; omega
              · obtain rfl : t = n := by omega
                go_wp2
                go_roundw
                case rel => exact ⟨k + 1, by omega, by go_num, by rw [HST2.out], Lib.hid (by rw [HST2.out]; have := HT.out; rw [HRA.out] at this; exact this), HW⟩
                case measure => simp [intOf]; omega
        · obtain rfl : k = m := by omega
          go_wp2
          go_ret
          exact ⟨by rw [HL.out]; rfl, HB.out⟩
end Go.Proofs.YtmepndnckcpgjaaGreat
