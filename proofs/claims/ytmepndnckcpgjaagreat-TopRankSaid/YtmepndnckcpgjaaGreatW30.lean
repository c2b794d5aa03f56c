/- Walks: cmp.Compare, Dearest's comparer, the insertion sort, SortStableFunc. -/
import Derived.Test.YtmepndnckcpgjaaGreatW9
import Derived.Test.YtmepndnckcpgjaaGreatBase4
import Derived.Test.YtmepndnckcpgjaaGreatM4
import Derived.BigRegion
namespace Go.Proofs.YtmepndnckcpgjaaGreat
open Go.RowKit
theorem quietly {P : Program} {f : FuncId} {args : Array Value} {w : World} {n : Nat} {v : Value} (h : Calls P f args (w.drewN n) fun e w' => e = .returned v ∧ w.drewN n = w') :
    Calls P f args (w.drewN n) fun e w'' => e = .returned v ∧ ∃ m, w'' = w.drewN m :=
  h.mono fun _ _ ⟨he, hm⟩ => ⟨he, n, hm.symm⟩
theorem quietly_m {P : Program} {f : FuncId} {args : Array Value} {w : World} {n : Nat} {v : Value} (h : Calls P f args (w.drewN n) fun e w' => e = .returned v ∧ ∃ m, w' = (w.drewN n).drewN m) :
    Calls P f args (w.drewN n) fun e w'' => e = .returned v ∧ ∃ m, w'' = w.drewN m :=
  h.mono fun _ _ ⟨he, m, hm⟩ => ⟨he, n + m, by rw [hm, World.drewN_drewN]⟩


section
variable {w w' : World} {base g n c : Nat} {xs : List Int}
/-- A row at the head of block g: its cells, and a store into it. -/
theorem Row.head {v : Value} (h : Row w base v xs) (hp : 0 < xs.length) : ∃ g c, v = .slice (some ⟨g, 0, none⟩) xs.length c ∧ base ≤ g := by
  rcases h.2 with ⟨_, hn⟩ | ⟨g, cap, cur, e, hb, _⟩
  · omega
  · exact ⟨g, cap, e, hb⟩
theorem Row.cell (h : Row w base (.slice (some ⟨g, 0, none⟩) n c) xs) (j : Nat) (hj : j < xs.length) : w.cell? ⟨g, j, none⟩ = some (.int .i64 (xs.getD j 0)) ∧ w.frozen? ⟨g, j, none⟩ = false ∧ base ≤ g := by
  rcases h.2 with ⟨e, hn⟩ | ⟨g', cap, cur, e, hb, hh, hc, hm, hsz, ht⟩
  · cases e
  · injection e with e1 e2 e3
    injection e1 with e1
    injection e1 with e1
    subst e1
    refine ⟨?_, by simp [World.frozen?, hh], hb⟩
    rw [cell_of_row w g j cur 3 (0, 0) hh]
    rw [Nat.mul_one] at ht
    have h3 : (cur.toList.take xs.length)[j]? = cur.toList[j]? := List.getElem?_take_of_lt hj
    rw [ht] at h3
    rw [← Array.getElem?_toList, ← h3]
    simp [hj]
theorem Row.set_ (h : Row w base (.slice (some ⟨g, 0, none⟩) n c) xs) (j : Nat) (y : Int) : Row (w.setCell ⟨g, j, none⟩ (.int .i64 y)) base (.slice (some ⟨g, 0, none⟩) n c) (xs.set j y) := by
  refine ⟨by simp, .inr ?_⟩
  rcases h.2 with ⟨e, hn⟩ | ⟨g', cap, cur, e, hb, hh, hc, hm, hsz, ht⟩
  · cases e
  · injection e with e1 e2 e3
    injection e1 with e1
    injection e1 with e1
    subst e1
    subst e3
    refine ⟨g, c, cur.setIfInBounds j (.int .i64 y), by rw [e2, List.length_set], hb, by simp [World.setCell, Array.getElem?_modify, hh], by rw [List.length_set]; exact hc, hm, by simp [hsz], ?_⟩
    rw [List.length_set, Array.toList_setIfInBounds, List.take_set, ht]
    simp [List.map_set]
theorem Row.drew (h : Row w base (.slice (some ⟨g, 0, none⟩) n c) xs) : Row w.drew base (.slice (some ⟨g, 0, none⟩) n c) xs := h
end

/-- cmp.isNaN at int -/
theorem f89_any (x : Int) (w : World) : Calls Tryz.prog 53 #[.int .i64 x] w fun e w' => e = .returned (.bool false) ∧ w = w' := by
  go_enter Tryz.func53, Tryz.ntmps53
  go_wp2
  go_ret
  simp
def cmp3 (x y : Int) : Int := if x < y then -1 else if y < x then 1 else 0
/-- cmp.Compare at int -/
theorem f69_any (x y : Int) (w : World) : Calls Tryz.prog 38 #[.int .i64 x, .int .i64 y] w fun e w' => e = .returned (.int .i64 (cmp3 x y)) ∧ w = w' := by
  by_cases h1 : x < y
  · have e : Hid (cmp3 x y = -1) := by unfold cmp3; rw [if_pos h1]; rfl
    go_enter Tryz.func38, Tryz.ntmps38
    go_wp2_with (go_at_call 53; refine (f89_any _ _).mono ?_; rintro e w' ⟨rfl, rfl⟩)
    go_ret
    exact ⟨ret_int e.out.symm, rfl⟩
  by_cases h2 : y < x
  · have e : Hid (cmp3 x y = 1) := by unfold cmp3; rw [if_neg h1, if_pos h2]; rfl
    go_enter Tryz.func38, Tryz.ntmps38
    go_wp2_with (go_at_call 53; refine (f89_any _ _).mono ?_; rintro e w' ⟨rfl, rfl⟩)
    go_ret
    exact ⟨ret_int e.out.symm, rfl⟩
  · have e : Hid (cmp3 x y = 0) := by unfold cmp3; rw [if_neg h1, if_neg h2]; rfl
    go_enter Tryz.func38, Tryz.ntmps38
    go_wp2_with (go_at_call 53; refine (f89_any _ _).mono ?_; rintro e w' ⟨rfl, rfl⟩)
    go_ret
    exact ⟨ret_int e.out.symm, rfl⟩

/-- share.Dearest$1 -/
theorem f68_any (p m d : Nat) (B : Option Addr) (ws : List Int) (x y : Int) (w : World) (hp : w.cell? ⟨p, 0, none⟩ = some (.slice B m d)) (ho : Ints w B m ws) (hx : 0 ≤ x ∧ x < m) (hy : 0 ≤ y ∧ y < m) :
    Calls Tryz.prog 37 #[.int .i64 x, .int .i64 y, .pointer (some ⟨p, 0, none⟩)] w fun e w' => e = .returned (.int .i64 (cmp3 (wv ws y) (wv ws x))) ∧ ∃ q, w' = w.drewN q := by
  have hsm := ho.small
  obtain ⟨bw, ow, rfl, hcw⟩ := ho.ad (by omega)
  obtain ⟨x, rfl⟩ := nat_of x hx.1
  obtain ⟨y, rfl⟩ := nat_of y hy.1
  have c1 := hcw x (by omega)
  have c2 := hcw y (by omega)
  have ex : wv ws (x : Int) = ws.getD x 0 := rfl
  have ey : wv ws (y : Int) = ws.getD y 0 := rfl
  rw [ex, ey]
  have K : Hid (∀ a, _) := fun a => f69_any (ws.getD y 0) (ws.getD x 0) (w.drewN a)
  generalize ws.getD x 0 = vx at *
  generalize ws.getD y 0 = vy at *
  generalize cmp3 vy vx = r at *
  clear hcw ex ey ho
  go_enter Tryz.func37, Tryz.ntmps37
  go_wp2
  go_quiet ((go_at_call 38; exact quietly (K.out _)))
  go_wp2
  go_ret
  exact ⟨rfl, _, rfl⟩

theorem cmp_neg (x y : Int) : (cmp3 x y < 0) ↔ x < y := by unfold cmp3; split <;> (try split) <;> omega

set_option maxRecDepth 100000 in
set_option maxHeartbeats 4000000 in
/-- slices.insertionSortCmpFunc, by weights -/
theorem f95s_any (p m d g n c base : Nat) (B : Option Addr) (ws : List Int) (w : World) (hp : w.cell? ⟨p, 0, none⟩ = some (.slice B m d)) (hpb : p < base)
    (hob : ∀ W, Below base w W → Ints W B m ws) (hr : Row w base (.slice (some ⟨g, 0, none⟩) n c) (revL n n)) (hn : n ≤ 6) (hn1 : 1 ≤ n) (hm : m = n) :
    Calls Tryz.prog 76 #[.slice (some ⟨g, 0, none⟩) n c, .int .i64 0, .int .i64 (n : Int), .func (.func 37) #[] #[.pointer (some ⟨p, 0, none⟩)]] w fun e w' =>
      e = .returned (.tuple #[]) ∧ Row w' base (.slice (some ⟨g, 0, none⟩) n c) (ordR ws n n) ∧ Below base w w' := by
  have hcmp : Hid (∀ W x y, Below base w W → (0 ≤ x ∧ x < (m : Int)) → (0 ≤ y ∧ y < (m : Int)) → _) := fun W x y hW hx hy => f68_any p m d B ws x y W ((hW.cell (p := ⟨p, 0, none⟩) hpb).trans hp) (hob W hW) hx hy
  have HR := Lib.hid hr
  have HA1 : Hid (arr ws n 1 = revL n n) := arr_one ws n hn1
  have hgb := (hr.cell 0 (by simp [revL]; omega)).2.2
  clear hr hob hp
  subst hm
  go_enter Tryz.func76, Tryz.ntmps76
  go_wp2
  go_loopw [8, 9] (fun i _ wr => ∃ k : Nat, 1 ≤ k ∧ k ≤ m ∧ i = .int .i64 k ∧ Row wr base (.slice (some ⟨g, 0, none⟩) m c) (arr ws m k) ∧ Below base w wr) (fun i _ _ => m - (intOf i).toNat)
  case atStart => exact ⟨1, by omega, by omega, rfl, by rw [HA1.out]; exact HR.out, Below.refl _ _⟩
  case round => as_aux_lemma =>
    obtain ⟨k, hk1, hk, rfl, hrow, hbel⟩ := hrel
    by_cases hlt : k < m
    · have hnext : Hid (sift ws (arr ws m k) k = arr ws m (k + 1)) := arr_succ ws m k hlt
      have hlen : (arr ws m k).length = m := arr_len ws m k (by omega)
      have hin : InR m (arr ws m k) := (revL_in m m (Nat.le_refl _)).perm (arr_perm ws m k (by omega))
      generalize arr ws m k = L at *
      have HW := Lib.hid hrow
      have HB := Lib.hid hbel
      have HI := Lib.hid hin
      have HLe := Lib.hid hlen
      clear hrow hbel hin hlen
      go_wp2
      go_loopw [9] (fun i wr => ∃ (j : Nat) (l : List Int), j ≤ k ∧ i = .int .i64 j ∧ sift ws l j = arr ws m (k + 1) ∧ l.length = m ∧ InR m l ∧ Row wr base (.slice (some ⟨g, 0, none⟩) m c) l ∧ Below base w wr) (fun i _ => (intOf i).toNat)
      case atStart => exact ⟨k, L, by omega, rfl, hnext.out, HLe.out, HI.out, HW.out, HB.out⟩
      case round => as_aux_lemma =>
        obtain ⟨j, l, hj, rfl, hsift, hlen, hin, hrow, hbel⟩ := hrel
        have HW2 := Lib.hid hrow
        have HB2 := Lib.hid hbel
        have HS2 := Lib.hid hsift
        by_cases hj0 : 0 < j
        · obtain ⟨t, rfl⟩ : ∃ t, j = t + 1 := ⟨j - 1, by omega⟩
          have hst : Hid (sift ws l (t + 1) = if wv ws (l.getD t 0) < wv ws (l.getD (t + 1) 0) then sift ws (swp l t) t else l) := rfl
          have r1 := hin.at_ t (by omega)
          have r2 := hin.at_ (t + 1) (by omega)
          obtain ⟨c1, z1, _⟩ := hrow.cell t (by omega)
          obtain ⟨c2, z2, _⟩ := hrow.cell (t + 1) (by omega)
          have K : Hid (∀ a, _) := fun a => hcmp.out (wr.drewN a) (l.getD (t + 1) 0) (l.getD t 0) (below_drewN hbel a) r2 r1
          have hsw : Hid (swp l t = (l.set (t + 1) (l.getD t 0)).set t (l.getD (t + 1) 0)) := rfl
          have hin2 : Hid (InR m (swp l t)) := hin.swp t (by omega)
          have hlen2 : Hid ((swp l t).length = m) := by rw [swp_len]; exact hlen
          have hcn := cmp_neg (wv ws (l.getD t 0)) (wv ws (l.getD (t + 1) 0))
          have hjg : decide ((0 : Int) < (t : Int) + 1) = true := decide_eq_true (by omega)
          have htw : IntKind.i64.wrap ((t : Int) + 1 - 1) = (t : Int) := by rw [show (t : Int) + 1 - 1 = (t : Int) by omega]; exact IntWalk.i64_in _ (by omega)
          have htn : (t : Int) + 1 - 1 = (t : Int) := by omega
          generalize l.getD t 0 = a at *
          generalize l.getD (t + 1) 0 = b at *
          generalize cmp3 (wv ws a) (wv ws b) = r at *
          by_cases hw : wv ws a < wv ws b
          · have hr : r < 0 := hcn.2 hw
            have hst2 : Hid (sift ws (swp l t) t = arr ws m (k + 1)) := by rw [← HS2.out, hst.out, if_pos hw]; rfl
            clear hcn hw hst hrow hbel hin hsift HS2
            go_wp2
            go_quiet ((go_at_call 37; exact quietly_m (K.out _)))
            go_wp2
            go_region
            go_wp2
            exact ⟨⟨t, swp l t, by omega, rfl, hst2.out, hlen2.out, hin2.out, by rw [hsw.out]; exact ((HW2.out.drewN _).set_ (t + 1) a).set_ t b, ((below_drewN HB2.out _).setCell hgb _).setCell hgb _⟩, by simp [intOf]⟩
          · have hr : ¬ r < 0 := fun h => hw (hcn.1 h)
            have hst2 : Hid (l = arr ws m (k + 1)) := by rw [← HS2.out, hst.out, if_neg hw]; rfl
            clear hcn hw hst hrow hbel hin hsift HS2
            go_wp2
            go_quiet ((go_at_call 37; exact quietly_m (K.out _)))
            go_wp2
            exact ⟨⟨k + 1, by omega, by omega, by go_num, by rw [← hst2.out]; exact HW2.out.drewN _, below_drewN HB2.out _⟩, by simp [intOf]; omega⟩
        · obtain rfl : j = 0 := by omega
          have hst2 : Hid (l = arr ws m (k + 1)) := by rw [← HS2.out]; rfl
          clear hrow hbel hin hsift HS2
          go_wp2
          go_quiet (fail)
          go_wp2
          exact ⟨⟨k + 1, by omega, by omega, by go_num, by rw [← hst2.out]; exact HW2.out.drewN _, below_drewN HB2.out _⟩, by simp [intOf]; omega⟩
    · obtain rfl : k = m := by omega
      have he : Hid (arr ws k k = ordR ws k k) := arr_all ws k
      have HW := Lib.hid hrow
      have HB := Lib.hid hbel
      clear hrow hbel
      go_wp2
      go_end0
      exact ⟨rfl, by rw [← he.out]; exact HW.out, HB.out⟩

set_option maxHeartbeats 4000000 in
/-- slices.stableCmpFunc, of few -/
theorem f88_any (p m d g n c base : Nat) (B : Option Addr) (ws : List Int) (w : World) (hp : w.cell? ⟨p, 0, none⟩ = some (.slice B m d)) (hpb : p < base)
    (hob : ∀ W, Below base w W → Ints W B m ws) (hr : Row w base (.slice (some ⟨g, 0, none⟩) n c) (revL n n)) (hn : n ≤ 6) (hn1 : 1 ≤ n) (hm : m = n) :
    Calls Tryz.prog 52 #[.slice (some ⟨g, 0, none⟩) n c, .int .i64 (n : Int), .func (.func 37) #[] #[.pointer (some ⟨p, 0, none⟩)]] w fun e w' =>
      e = .returned (.tuple #[]) ∧ Row w' base (.slice (some ⟨g, 0, none⟩) n c) (ordR ws n n) ∧ Below base w w' := by
  have k95 := Lib.hid (f95s_any p m d g n c base B ws w hp hpb hob hr hn hn1 hm)
  clear hp hob hr hm
  go_enter Tryz.func52, Tryz.ntmps52
  go_wp2
  go_loop [7, 8] (fun a b => a = .int .i64 0 ∧ b = .int .i64 20) (fun _ _ => 0)
  case atStart => exact ⟨rfl, rfl⟩
  case round =>
    obtain ⟨rfl, rfl⟩ := hrel
    go_wp2_with fail
    refine k95.out.mono ?_
    rintro e w1 ⟨rfl, hr, hb⟩
    have HR := Lib.hid hr
    have HB := Lib.hid hb
    clear hr hb
    go_wp2_with fail
    go_loop [6, 7, 8, 9] (fun a _ _ _ => a = .int .i64 20) (fun _ _ _ _ => 0)
    case atStart => rfl
    case round =>
      obtain rfl := hrel
      go_wp2_with fail
      go_end0
      exact ⟨rfl, HR.out, HB.out⟩

set_option maxHeartbeats 1000000 in
/-- slices.SortStableFunc, of few -/
theorem f67_any (p m d g n c base : Nat) (B : Option Addr) (ws : List Int) (w : World) (hp : w.cell? ⟨p, 0, none⟩ = some (.slice B m d)) (hpb : p < base)
    (hob : ∀ W, Below base w W → Ints W B m ws) (hr : Row w base (.slice (some ⟨g, 0, none⟩) n c) (revL n n)) (hn : n ≤ 6) (hn1 : 1 ≤ n) (hm : m = n) :
    Calls Tryz.prog 36 #[.slice (some ⟨g, 0, none⟩) n c, .func (.func 37) #[] #[.pointer (some ⟨p, 0, none⟩)]] w fun e w' =>
      e = .returned (.tuple #[]) ∧ Row w' base (.slice (some ⟨g, 0, none⟩) n c) (ordR ws n n) ∧ Below base w w' := by
  have k88 := Lib.hid (f88_any p m d g n c base B ws w hp hpb hob hr hn hn1 hm)
  clear hp hob hr hm
  go_enter Tryz.func36, Tryz.ntmps36
  go_wp2_with fail
  refine k88.out.mono ?_
  rintro e w1 ⟨rfl, hr, hb⟩
  have HR := Lib.hid hr
  have HB := Lib.hid hb
  clear hr hb
  go_wp2_with fail
  go_end0
  exact ⟨rfl, HR.out, HB.out⟩
end Go.Proofs.YtmepndnckcpgjaaGreat
