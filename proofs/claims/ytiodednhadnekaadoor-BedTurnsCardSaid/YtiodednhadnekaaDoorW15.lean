/- Walks: Cyclic. -/
import Derived.Test.YtiodednhadnekaaDoorW14
namespace Go.Proofs.YtiodednhadnekaaDoor
open Go.RowKit Go.Deep
attribute [local go_sem ↓] Go.wp_at_zero Go.wp_at_succ

theorem Grows.apart {w : World} {base g n r : Nat} {f : Nat → List Int} {B : Option Addr} {m c : Nat} (h : Grows w base g n f) (hc : w.cell? ⟨g, r, none⟩ = some (.slice B m c)) : some g ≠ Value.ownBlock (.slice B m c) := by
  obtain ⟨vs, h1, h2, h3, h4⟩ := h
  have hvr : vs[r]? = some (.slice B m c) := by rw [← h1.cell]; exact hc
  have hro := h3 r _ hvr
  rcases hro.2 with ⟨e, hn⟩ | ⟨g', cap, cur, e, hb', hh, _⟩
  · rw [e]; simp [Value.ownBlock]
  · rw [e]
    intro he
    have hg' : g' = g := by simp [Value.ownBlock] at he; omega
    subst hg'
    have := h1.1
    rw [hh] at this
    injection this with this
    injection this with _ this
    exact absurd this (by decide)
theorem Grows.frozen {w : World} {base g n : Nat} {f : Nat → List Int} (h : Grows w base g n f) (i : Nat) : w.frozen? ⟨g, i, none⟩ = false := by
  obtain ⟨vs, h1, _⟩ := h
  exact h1.frozen i
/-- Is there a cyclic bed? -/
def cycOk (n s : Int) : Prop := 1 ≤ n ∧ n ≤ 7 ∧ 1 ≤ s ∧ s ≤ n ∧ Nat.gcd s.toNat n.toNat = 1
theorem f38_no (n s : Int) (w : World) (h : ¬ cycOk n s) :
    Calls Tryd.prog 38 #[.int .i64 n, .int .i64 s] w fun e w' => e = .returned (.tuple #[.slice none 0 0, .int .i64 2]) ∧ ∃ q, w' = w.drewN q := by
  by_cases h1 : n < 1
  · go_enter Tryd.func38, Tryd.ntmps38
    go_wp2
    go_ret2
    exact ⟨rfl, 0, rfl⟩
  by_cases h2 : 7 < n
  · go_enter Tryd.func38, Tryd.ntmps38
    go_wp2
    go_ret2
    exact ⟨rfl, 0, rfl⟩
  by_cases h3 : s < 1
  · go_enter Tryd.func38, Tryd.ntmps38
    go_wp2
    go_ret2
    exact ⟨rfl, 0, rfl⟩
  by_cases h4 : n < s
  · go_enter Tryd.func38, Tryd.ntmps38
    go_wp2
    go_ret2
    exact ⟨rfl, 0, rfl⟩
  obtain ⟨N, rfl⟩ := nat_of n (by omega)
  obtain ⟨S, rfl⟩ := nat_of s (by omega)
  have K := Lib.hid (f83_any S N w (by omega) (by omega))
  have hg : Nat.gcd S N ≠ 1 := fun e => h ⟨by omega, by omega, by omega, by omega, by simpa using e⟩
  generalize Nat.gcd S N = G at *
  have hq : ((G : Int) != 1) = true := by simp; omega
  clear h hg
  go_enter Tryd.func38, Tryd.ntmps38
  go_wp2_with fail
  refine K.out.mono ?_
  rintro e w1 ⟨rfl, q, rfl⟩
  go_wp2
  go_ret2
  exact ⟨rfl, q, rfl⟩
theorem mod_lt7 (a n : Nat) (h : 1 ≤ n) : a % n < n := Nat.mod_lt _ (by omega)
set_option maxRecDepth 100000 in
set_option maxHeartbeats 4000000 in
theorem f38_yes (n s : Nat) (w : World) (h : cycOk n s) :
    Calls Tryd.prog 38 #[.int .i64 (n : Int), .int .i64 (s : Int)] w fun e w' => ∃ A c, e = .returned (.tuple #[.slice A n c, .int .i64 0]) ∧ BedsN w' w.heap.size A n c (cycL n s) ∧ Below w.heap.size w w' := by
  obtain ⟨h1, h2, h3, h4, h5⟩ := h
  simp only [Int.toNat_natCast] at h5
  have h1 : 1 ≤ n := by omega
  have h2 : n ≤ 7 := by omega
  have h3 : 1 ≤ s := by omega
  have h4 : s ≤ n := by omega
  have d1 : decide ((n : Int) < 1) = false := decide_eq_false (by omega)
  have d2 : decide (7 < (n : Int)) = false := decide_eq_false (by omega)
  have d3 : decide ((s : Int) < 1) = false := decide_eq_false (by omega)
  have d4 : decide (n < s) = false := decide_eq_false (by omega)
  have K := Lib.hid (f83_any s n w (by omega) (by omega))
  rw [h5] at K
  clear h5
  obtain ⟨B, hB⟩ : ∃ B, B = w.heap.size := ⟨_, rfl⟩
  have HBW := Lib.hid hB
  go_enter Tryd.func38, Tryd.ntmps38
  go_wp2_with fail
  refine K.out.mono ?_
  rintro e w1 ⟨rfl, q, rfl⟩
  have B1 : Hid (Below B w (w.drewN q)) := by rw [hB]; exact below_drewN (Below.refl _ _) q
  have z1 : (w.drewN q).heap.size = w.heap.size := rfl
  generalize w.drewN q = w1 at *
  have hmk := make_slices n (by omega) w1
  have G0 := Lib.hid (Grows.made w1 n B)
  have B2 : Hid (Below B w (w1.alloc (.cells (List.replicate n (Value.slice none 0 0)).toArray 29))) := B1.out.alloc (by omega) _
  obtain ⟨g, hg⟩ : ∃ g, g = w1.heap.size := ⟨_, rfl⟩
  have hgB : B ≤ g := by omega
  obtain ⟨w2, hw2⟩ : ∃ z, z = w1.alloc (.cells (List.replicate n (Value.slice none 0 0)).toArray 29) := ⟨_, rfl⟩
  rw [← hg, ← hw2] at hmk
  rw [← hg, ← hw2] at G0
  rw [← hw2] at B2
  clear hg hw2 z1 hB K B1
  go_wp2
  go_loopw [34] (fun i wr => ∃ r : Nat, r ≤ n ∧ i = .int .i64 (r : Int) ∧ Grows wr B g n (fun j => if j < r then cycR n s j n else []) ∧ Below B w wr) (fun i _ => n - (intOf i).toNat)
  case atStart => exact ⟨0, by omega, rfl, G0.out.congr fun j _ => by rw [if_neg (by omega)], B2.out⟩
  case round => as_aux_lemma =>
    obtain ⟨r, hr, rfl, hgr, hbel⟩ := hrel
    have HGR := Lib.hid hgr
    have HBL := Lib.hid hbel
    clear hgr hbel
    by_cases hlt : r < n
    · have r0 : (0 : Int) ≤ (r : Int) := by omega
      have rn : (r : Int) < (n : Int) := by omega
      go_wp2
      go_loopw [38] (fun i wr => ∃ k : Nat, k ≤ n ∧ i = .int .i64 (k : Int) ∧ Grows wr B g n (fun j => if j < r then cycR n s j n else if j = r then cycR n s r k else []) ∧ Below B w wr) (fun i _ => n - (intOf i).toNat)
      case atStart => exact ⟨0, by omega, rfl, HGR.out.congr fun j _ => by
        by_cases e : j < r
        · rw [if_pos e, if_pos e]
        · rw [if_neg e, if_neg e]
          split <;> rfl, HBL.out⟩
      case round => as_aux_lemma =>
        obtain ⟨k, hk, rfl, hgr, hbel⟩ := hrel
        have HGR := Lib.hid hgr
        have HBL := Lib.hid hbel
        clear hgr hbel
        by_cases hlk : k < n
        · obtain ⟨C, m, c, hc, hrow⟩ := HGR.out.at_ hlt
          simp only [if_neg (Nat.lt_irrefl r), if_true] at hrow
          have hm : m = k := by
            obtain ⟨A', c', e, _⟩ := hrow.form
            injection e with _ e2 _
            rw [e2, cycR_len]
          subst hm
          have HROW := Lib.hid hrow
          have HC := Lib.hid hc
          have hsz : B ≤ wr.heap.size := by have := HBL.out.size; have := HBW.out; omega
          have hprod : r * s ≤ 7 * 7 := Nat.mul_le_mul (by omega) (by omega)
          obtain ⟨P, hP⟩ : ∃ P, P = r * s := ⟨_, rfl⟩
          obtain ⟨y, hy⟩ : ∃ y, y = (P + m) % n := ⟨_, rfl⟩
          have hyn : y < n := by rw [hy]; exact Nat.mod_lt _ (by omega)
          have e1 : IntKind.i64.wrap ((r : Int) * (s : Int)) = (P : Int) := by
            have : (r : Int) * (s : Int) = (P : Int) := by rw [hP]; simp
            rw [this]; exact IntWalk.i64_in _ (by omega)
          have e0 : (r : Int) * (s : Int) = (P : Int) := by rw [hP]; simp
          obtain ⟨Z, hZ⟩ : ∃ Z, Z = P + m := ⟨_, rfl⟩
          have e2 : IntKind.i64.wrap ((P : Int) + (m : Int)) = (Z : Int) := (IntWalk.i64_in _ (by omega)).trans (by omega)
          have e22 : (P : Int) + (m : Int) = (Z : Int) := by omega
          have e3 : (Z : Int).tmod (n : Int) = (y : Int) := by rw [hy, hZ, Int.tmod_eq_emod_of_nonneg (by omega)]; simp
          have e4 : (Z : Int) % (n : Int) = (y : Int) := by rw [hy, hZ]; simp
          have eP : IntKind.i64.wrap (P : Int) = (P : Int) := IntWalk.i64_in _ (by omega)
          have eZ : IntKind.i64.wrap (Z : Int) = (Z : Int) := IntWalk.i64_in _ (by omega)
          have e5 : ¬ n = 0 := by omega
          have HSU : Hid (cycR n s r m ++ [(y : Int)] = cycR n s r (m + 1)) := by rw [hy, hP]; exact cycR_succ n s r m
          have hll := cycR_len n s r m
          have m0 : (0 : Int) ≤ (m : Int) := by omega
          have R1 : Hid (∀ W : World, W.heap = (wr.alloc (.cells #[.int .i64 (y : Int)] 3)).heap → Row W B (.slice C m c) (cycR n s r m)) := fun W h => by
            have h1 := HROW.out.alloc (.cells #[.int .i64 (y : Int)] 3)
            unfold Row World.ownsRow at h1 ⊢
            rw [h]; exact h1
          have R2 : Hid (∀ W : World, W.heap = (wr.alloc (.cells #[.int .i64 (y : Int)] 3)).heap → W.cell? ⟨wr.heap.size, 0, none⟩ = some (.int .i64 (y : Int))) := fun W h => by
            have h1 := cell_new wr #[.int .i64 (y : Int)] 3 0
            unfold World.cell? at h1 ⊢
            rw [h]; exact h1
          have R4 : Hid (∀ W : World, W.heap = (wr.alloc (.cells #[.int .i64 (y : Int)] 3)).heap → B ≤ W.heap.size) := fun W h => by rw [h]; simp; omega
          have R5 : Hid (∀ (W w' : World) (b' c' : Nat), W.heap = (wr.alloc (.cells #[.int .i64 (y : Int)] 3)).heap → Below wr.heap.size wr W → W.grownBy w' (Value.ownBlock (.slice C m c)) → Row w' B (.slice (some ⟨b', 0, none⟩) ((cycR n s r m).length + 1) c') (cycR n s r m ++ [(y : Int)]) → (Value.ownBlock (.slice C m c) = some b' ∨ b' = W.heap.size) →
              Grows (w'.setCell ⟨g, r, none⟩ (.slice (some ⟨b', 0, none⟩) ((cycR n s r m).length + 1) c')) B g n (fun j => if j < r then cycR n s j n else if j = r then cycR n s r (m + 1) else []) ∧ Below B w (w'.setCell ⟨g, r, none⟩ (.slice (some ⟨b', 0, none⟩) ((cycR n s r m).length + 1) c')) ∧ w'.cell? ⟨g, r, none⟩ = some (.slice C m c) ∧ w'.frozen? ⟨g, r, none⟩ = false) := fun W w' b' c' hh hb hg hrow hbl => by
            have hz : wr.heap.size ≤ W.heap.size := hb.size
            have hap := HGR.out.apart HC.out
            have hglt := lt_of_cell HC.out
            have q1 : W.cell? ⟨g, r, none⟩ = some (.slice C m c) := (hb.cell hglt).trans HC.out
            have q2 : W.frozen? ⟨g, r, none⟩ = false := ((bcell hb).2 _ _ hglt).trans (HGR.out.frozen r)
            have hgW := lt_of_cell q1
            have e9 : (cycR n s r m ++ [(y : Int)]).length = (cycR n s r m).length + 1 := by simp
            have hB2 : Below B w W := HBL.out.trans (hb.mono hsz)
            refine ⟨?_, (below_grown hB2 hg (R4.out W hh) (R1.out W hh) (Nat.le_refl _)).setCell (by show B ≤ g; omega) _, (World.cell?_of_block (hg.block g hgW hap)).trans q1, (World.frozen?_of_block (hg.block g hgW hap)).trans q2⟩
            rw [← e9] at hrow ⊢
            refine (HGR.out.push hlt HC.out hb hz hg hrow hbl).congr fun j _ => ?_
            by_cases e1 : j = r
            · subst e1; rw [if_neg (by omega), if_pos rfl, if_pos rfl, HSU.out]
            · simp only [if_neg e1]
          rw [hll] at R5
          have HLL : Hid ((cycR n s r m).length ≤ 1000000) := by rw [hll]; unfold Hid; omega
          have hcc := HC.out
          have hcc2 : (wr.alloc (.cells #[.int .i64 (y : Int)] 3)).cell? ⟨g, r, none⟩ = some (.slice C m c) := ((below_alloc wr _).cell (lt_of_cell HC.out)).trans HC.out
          clear hrow hP hy hZ
          generalize cycR n s r m = xs at *
          go_wp2_with fail
          refine wp_region_held_drew (S := fun _ => True) (by kernel_rfl) trivial (fun _ => ?_)
          refine wpAnyH_take (i := 0) (oi := { dst := some 41, op := Op.move (Operand.tmp 6), type := 22, pos := "mate.go:148", after := #[], guard := none }) (v := .slice (some ⟨g, 0, none⟩) n n) rfl (by kernel_rfl) (by kernel_rfl) (by kernel_rfl) (fun _ _ _ h => h) (Or.inl ⟨by kernel_rfl, fun W _ => by kernel_rfl⟩) trivial ?_
          try simp only [Act.put, List.setIfInBounds_toArray, List.set_cons_zero, List.set_cons_succ]
          refine wpAnyH_take (i := 1) (oi := { dst := some 42, op := Op.move (Operand.tmp 7), type := 3, pos := "mate.go:148", after := #[], guard := none }) (v := .int .i64 (r : Int)) rfl (by kernel_rfl) (by kernel_rfl) (by kernel_rfl) (fun _ _ _ h => h) (Or.inl ⟨by kernel_rfl, fun W _ => by kernel_rfl⟩) trivial ?_
          try simp only [Act.put, List.setIfInBounds_toArray, List.set_cons_zero, List.set_cons_succ]
          refine wpAnyH_take (i := 2) (oi := { dst := some 43, op := Op.move (Operand.tmp 6), type := 22, pos := "mate.go:148", after := #[], guard := none }) (v := .slice (some ⟨g, 0, none⟩) n n) rfl (by kernel_rfl) (by kernel_rfl) (by kernel_rfl) (fun _ _ _ h => h) (Or.inl ⟨by kernel_rfl, fun W _ => by kernel_rfl⟩) trivial ?_
          try simp only [Act.put, List.setIfInBounds_toArray, List.set_cons_zero, List.set_cons_succ]
          refine wpAnyH_take (i := 3) (oi := { dst := some 44, op := Op.move (Operand.tmp 7), type := 3, pos := "mate.go:148", after := #[], guard := none }) (v := .int .i64 (r : Int)) rfl (by kernel_rfl) (by kernel_rfl) (by kernel_rfl) (fun _ _ _ h => h) (Or.inl ⟨by kernel_rfl, fun W _ => by kernel_rfl⟩) trivial ?_
          try simp only [Act.put, List.setIfInBounds_toArray, List.set_cons_zero, List.set_cons_succ]
          refine wpAnyH_take (i := 4) (oi := { dst := some 45, op := Op.indexAddr 22 (Operand.tmp 43) (Operand.tmp 44), type := 0, pos := "mate.go:148", after := #[{ on := 2, ground := Ground.data }, { on := 3, ground := Ground.data }], guard := none }) (v := .pointer (some ⟨g, r, none⟩)) rfl (by kernel_rfl) (by kernel_rfl) (by kernel_rfl) (fun _ _ _ h => h) (Or.inl ⟨by kernel_rfl, fun W _ => by go_simp⟩) trivial ?_
          try simp only [Act.put, List.setIfInBounds_toArray, List.set_cons_zero, List.set_cons_succ]
          refine wpAnyH_take (i := 6) (oi := { dst := some 47, op := Op.move (Operand.tmp 7), type := 3, pos := "mate.go:148", after := #[], guard := none }) (v := .int .i64 (r : Int)) rfl (by kernel_rfl) (by kernel_rfl) (by kernel_rfl) (fun _ _ _ h => h) (Or.inl ⟨by kernel_rfl, fun W _ => by kernel_rfl⟩) trivial ?_
          try simp only [Act.put, List.setIfInBounds_toArray, List.set_cons_zero, List.set_cons_succ]
          refine wpAnyH_take (i := 7) (oi := { dst := some 48, op := Op.move (Operand.tmp 1), type := 3, pos := "mate.go:148", after := #[], guard := none }) (v := .int .i64 (s : Int)) rfl (by kernel_rfl) (by kernel_rfl) (by kernel_rfl) (fun _ _ _ h => h) (Or.inl ⟨by kernel_rfl, fun W _ => by kernel_rfl⟩) trivial ?_
          try simp only [Act.put, List.setIfInBounds_toArray, List.set_cons_zero, List.set_cons_succ]
          refine wpAnyH_take (i := 8) (oi := { dst := some 49, op := Op.binOp BinOp.mul 3 (Operand.tmp 47) (Operand.tmp 48) 3, type := 3, pos := "mate.go:148", after := #[{ on := 6, ground := Ground.data }, { on := 7, ground := Ground.data }], guard := none }) (v := .int .i64 (P : Int)) rfl (by kernel_rfl) (by kernel_rfl) (by kernel_rfl) (fun _ _ _ h => h) (Or.inl ⟨by kernel_rfl, fun W _ => by go_simp⟩) trivial ?_
          try simp only [Act.put, List.setIfInBounds_toArray, List.set_cons_zero, List.set_cons_succ]
          refine wpAnyH_take (i := 9) (oi := { dst := some 50, op := Op.move (Operand.tmp 8), type := 3, pos := "mate.go:148", after := #[], guard := none }) (v := .int .i64 (m : Int)) rfl (by kernel_rfl) (by kernel_rfl) (by kernel_rfl) (fun _ _ _ h => h) (Or.inl ⟨by kernel_rfl, fun W _ => by kernel_rfl⟩) trivial ?_
          try simp only [Act.put, List.setIfInBounds_toArray, List.set_cons_zero, List.set_cons_succ]
          refine wpAnyH_take (i := 10) (oi := { dst := some 51, op := Op.binOp BinOp.add 3 (Operand.tmp 49) (Operand.tmp 50) 3, type := 3, pos := "mate.go:148", after := #[{ on := 8, ground := Ground.data }, { on := 9, ground := Ground.data }], guard := none }) (v := .int .i64 (Z : Int)) rfl (by kernel_rfl) (by kernel_rfl) (by kernel_rfl) (fun _ _ _ h => h) (Or.inl ⟨by kernel_rfl, fun W _ => by go_simp⟩) trivial ?_
          try simp only [Act.put, List.setIfInBounds_toArray, List.set_cons_zero, List.set_cons_succ]
          refine wpAnyH_take (i := 11) (oi := { dst := some 52, op := Op.move (Operand.tmp 0), type := 3, pos := "mate.go:148", after := #[], guard := none }) (v := .int .i64 (n : Int)) rfl (by kernel_rfl) (by kernel_rfl) (by kernel_rfl) (fun _ _ _ h => h) (Or.inl ⟨by kernel_rfl, fun W _ => by kernel_rfl⟩) trivial ?_
          try simp only [Act.put, List.setIfInBounds_toArray, List.set_cons_zero, List.set_cons_succ]
          refine wpAnyH_take (i := 12) (oi := { dst := some 53, op := Op.binOp BinOp.rem 3 (Operand.tmp 51) (Operand.tmp 52) 3, type := 3, pos := "mate.go:148", after := #[{ on := 10, ground := Ground.data }, { on := 11, ground := Ground.data }], guard := none }) (v := .int .i64 (y : Int)) rfl (by kernel_rfl) (by kernel_rfl) (by kernel_rfl) (fun _ _ _ h => h) (Or.inl ⟨by kernel_rfl, fun W _ => by go_simp⟩) trivial ?_
          try simp only [Act.put, List.setIfInBounds_toArray, List.set_cons_zero, List.set_cons_succ]
          refine wpAnyH_ready (rs := [5, 13]) (by kernel_rfl) (by simp) ?_
          refine AllReadyH.cons (o := { dst := some 46, op := Op.load 29 (Operand.tmp 45), type := 29, pos := "mate.go:148", after := #[{ on := 4, ground := Ground.data }], guard := none }) rfl (fun K hK => ?_) (AllReadyH.cons (o := { dst := some 54, op := Op.buildSlice 29 1 #[(0, Operand.tmp 53)], type := 29, pos := "mate.go:148", after := #[{ on := 12, ground := Ground.data }], guard := none }) rfl (fun K hK => ?_) AllReadyH.nil)
          · skip
            go_simp
            refine hK.out _ _ trivial (fun _ => ?_)
            clear hK K
            try simp only [Act.put, List.setIfInBounds_toArray, List.set_cons_zero, List.set_cons_succ]
            refine wpAnyH_ready (rs := [13]) (by kernel_rfl) (by simp) ?_
            refine AllReadyH.cons (o := { dst := some 54, op := Op.buildSlice 29 1 #[(0, Operand.tmp 53)], type := 29, pos := "mate.go:148", after := #[{ on := 12, ground := Ground.data }], guard := none }) rfl (fun K hK => ?_) AllReadyH.nil
            go_simp
            refine hK.out _ _ trivial (fun _ => ?_)
            clear hK K
            try simp only [Act.put, List.setIfInBounds_toArray, List.set_cons_zero, List.set_cons_succ]
            refine wpAnyH_ready (rs := [14]) (by kernel_rfl) (by simp) ?_
            refine AllReadyH.cons (o := { dst := some 55, op := Op.call { callee := Callee.builtin Builtin.append, args := #[Operand.tmp 46, Operand.tmp 54], argTypes := #[29, 29] }, type := 29, pos := "mate.go:148", after := #[{ on := 5, ground := Ground.data }, { on := 13, ground := Ground.data }], guard := none }) rfl (fun K hK => ?_) AllReadyH.nil
            refine step_pushI (by rfl) _ _ (by rfl) B (.slice C m c) xs (by rfl) (R1.out _ (by rfl)) wr.heap.size 1 (y : Int) (by rfl) (R2.out _ (by rfl)) HLL.out (R4.out _ (by rfl)) ?_
            intro b' c' w' hr' hg' hb'
            rw [hll] at hr'
            obtain ⟨HP1, HP2, HPC, HPF⟩ := R5.out _ _ _ _ (by rfl) (by first | exact (below_alloc wr _).drew | exact below_alloc wr _) hg' hr' hb'
            have HQ1 := Lib.hid HP1
            have HQ2 := Lib.hid HP2
            clear HP1 HP2 hg' hr' hb'
            rw [hll]
            refine hK.out _ _ trivial (fun _ => ?_)
            clear hK K
            try simp only [Act.put, List.setIfInBounds_toArray, List.set_cons_zero, List.set_cons_succ]
            refine wpAnyH_ready (rs := [15]) (by kernel_rfl) (by simp) ?_
            refine AllReadyH.cons (o := { dst := some 56, op := Op.indexAddr 22 (Operand.tmp 41) (Operand.tmp 42), type := 0, pos := "mate.go:148", after := #[{ on := 0, ground := Ground.data }, { on := 1, ground := Ground.data }, { on := 0, ground := Ground.phase }, { on := 1, ground := Ground.phase }, { on := 2, ground := Ground.phase }, { on := 3, ground := Ground.phase }, { on := 4, ground := Ground.phase }, { on := 5, ground := Ground.phase }, { on := 6, ground := Ground.phase }, { on := 7, ground := Ground.phase }, { on := 8, ground := Ground.phase }, { on := 9, ground := Ground.phase }, { on := 10, ground := Ground.phase }, { on := 11, ground := Ground.phase }, { on := 12, ground := Ground.phase }, { on := 13, ground := Ground.phase }, { on := 14, ground := Ground.phase }], guard := none }) rfl (fun K hK => ?_) AllReadyH.nil
            go_simp
            refine hK.out _ _ trivial (fun _ => ?_)
            clear hK K
            try simp only [Act.put, List.setIfInBounds_toArray, List.set_cons_zero, List.set_cons_succ]
            refine wpAnyH_ready (rs := [16]) (by kernel_rfl) (by simp) ?_
            refine AllReadyH.cons (o := { dst := none, op := Op.store 29 (Operand.tmp 56) (Operand.tmp 55), type := 0, pos := "mate.go:148", after := #[{ on := 15, ground := Ground.data }, { on := 14, ground := Ground.data }, { on := 14, ground := Ground.chain }, { on := 0, ground := Ground.phase }, { on := 1, ground := Ground.phase }, { on := 2, ground := Ground.phase }, { on := 3, ground := Ground.phase }, { on := 4, ground := Ground.phase }, { on := 5, ground := Ground.phase }, { on := 6, ground := Ground.phase }, { on := 7, ground := Ground.phase }, { on := 8, ground := Ground.phase }, { on := 9, ground := Ground.phase }, { on := 10, ground := Ground.phase }, { on := 11, ground := Ground.phase }, { on := 12, ground := Ground.phase }, { on := 13, ground := Ground.phase }, { on := 14, ground := Ground.phase }], guard := none }) rfl (fun K hK => ?_) AllReadyH.nil
            go_simp
            refine hK.out _ _ trivial (fun _ => ?_)
            clear hK K
            try simp only [Act.put, List.setIfInBounds_toArray, List.set_cons_zero, List.set_cons_succ]
            refine wpAnyH_done (by kernel_rfl) ?_ _
            go_wp2
            go_roundw
            case rel => exact ⟨m + 1, by omega, by go_num, HQ1.out, HQ2.out⟩
            case measure => simp [intOf]; omega
          · skip
            go_simp
            refine hK.out _ _ trivial (fun _ => ?_)
            clear hK K
            try simp only [Act.put, List.setIfInBounds_toArray, List.set_cons_zero, List.set_cons_succ]
            refine wpAnyH_ready (rs := [5]) (by kernel_rfl) (by simp) ?_
            refine AllReadyH.cons (o := { dst := some 46, op := Op.load 29 (Operand.tmp 45), type := 29, pos := "mate.go:148", after := #[{ on := 4, ground := Ground.data }], guard := none }) rfl (fun K hK => ?_) AllReadyH.nil
            go_simp
            refine hK.out _ _ trivial (fun _ => ?_)
            clear hK K
            try simp only [Act.put, List.setIfInBounds_toArray, List.set_cons_zero, List.set_cons_succ]
            refine wpAnyH_ready (rs := [14]) (by kernel_rfl) (by simp) ?_
            refine AllReadyH.cons (o := { dst := some 55, op := Op.call { callee := Callee.builtin Builtin.append, args := #[Operand.tmp 46, Operand.tmp 54], argTypes := #[29, 29] }, type := 29, pos := "mate.go:148", after := #[{ on := 5, ground := Ground.data }, { on := 13, ground := Ground.data }], guard := none }) rfl (fun K hK => ?_) AllReadyH.nil
            refine step_pushI (by rfl) _ _ (by rfl) B (.slice C m c) xs (by rfl) (R1.out _ (by rfl)) wr.heap.size 1 (y : Int) (by rfl) (R2.out _ (by rfl)) HLL.out (R4.out _ (by rfl)) ?_
            intro b' c' w' hr' hg' hb'
            rw [hll] at hr'
            obtain ⟨HP1, HP2, HPC, HPF⟩ := R5.out _ _ _ _ (by rfl) (by first | exact (below_alloc wr _).drew | exact below_alloc wr _) hg' hr' hb'
            have HQ1 := Lib.hid HP1
            have HQ2 := Lib.hid HP2
            clear HP1 HP2 hg' hr' hb'
            rw [hll]
            refine hK.out _ _ trivial (fun _ => ?_)
            clear hK K
            try simp only [Act.put, List.setIfInBounds_toArray, List.set_cons_zero, List.set_cons_succ]
            refine wpAnyH_ready (rs := [15]) (by kernel_rfl) (by simp) ?_
            refine AllReadyH.cons (o := { dst := some 56, op := Op.indexAddr 22 (Operand.tmp 41) (Operand.tmp 42), type := 0, pos := "mate.go:148", after := #[{ on := 0, ground := Ground.data }, { on := 1, ground := Ground.data }, { on := 0, ground := Ground.phase }, { on := 1, ground := Ground.phase }, { on := 2, ground := Ground.phase }, { on := 3, ground := Ground.phase }, { on := 4, ground := Ground.phase }, { on := 5, ground := Ground.phase }, { on := 6, ground := Ground.phase }, { on := 7, ground := Ground.phase }, { on := 8, ground := Ground.phase }, { on := 9, ground := Ground.phase }, { on := 10, ground := Ground.phase }, { on := 11, ground := Ground.phase }, { on := 12, ground := Ground.phase }, { on := 13, ground := Ground.phase }, { on := 14, ground := Ground.phase }], guard := none }) rfl (fun K hK => ?_) AllReadyH.nil
            go_simp
            refine hK.out _ _ trivial (fun _ => ?_)
            clear hK K
            try simp only [Act.put, List.setIfInBounds_toArray, List.set_cons_zero, List.set_cons_succ]
            refine wpAnyH_ready (rs := [16]) (by kernel_rfl) (by simp) ?_
            refine AllReadyH.cons (o := { dst := none, op := Op.store 29 (Operand.tmp 56) (Operand.tmp 55), type := 0, pos := "mate.go:148", after := #[{ on := 15, ground := Ground.data }, { on := 14, ground := Ground.data }, { on := 14, ground := Ground.chain }, { on := 0, ground := Ground.phase }, { on := 1, ground := Ground.phase }, { on := 2, ground := Ground.phase }, { on := 3, ground := Ground.phase }, { on := 4, ground := Ground.phase }, { on := 5, ground := Ground.phase }, { on := 6, ground := Ground.phase }, { on := 7, ground := Ground.phase }, { on := 8, ground := Ground.phase }, { on := 9, ground := Ground.phase }, { on := 10, ground := Ground.phase }, { on := 11, ground := Ground.phase }, { on := 12, ground := Ground.phase }, { on := 13, ground := Ground.phase }, { on := 14, ground := Ground.phase }], guard := none }) rfl (fun K hK => ?_) AllReadyH.nil
            go_simp
            refine hK.out _ _ trivial (fun _ => ?_)
            clear hK K
            try simp only [Act.put, List.setIfInBounds_toArray, List.set_cons_zero, List.set_cons_succ]
            refine wpAnyH_done (by kernel_rfl) ?_ _
            go_wp2
            go_roundw
            case rel => exact ⟨m + 1, by omega, by go_num, HQ1.out, HQ2.out⟩
            case measure => simp [intOf]; omega
        · obtain rfl : k = n := by omega
          have HGR2 : Hid (Grows wr B g k (fun j => if j < r + 1 then cycR k s j k else [])) := HGR.out.congr fun j _ => by
            by_cases e : j < r
            · rw [if_pos (by omega), if_pos e]
            · by_cases e2 : j = r
              · subst e2; rw [if_pos (by omega), if_neg e, if_pos rfl]
              · rw [if_neg (by omega), if_neg e, if_neg e2]
          go_wp2
          go_roundw
          case rel => exact ⟨r + 1, by omega, by go_num, HGR2.out, HBL.out⟩
          case measure => simp [intOf]; omega
    · obtain rfl : r = n := by omega
      have HN : Hid (BedsN wr B (some ⟨g, 0, none⟩) r r (cycL r s)) := HGR.out.bedsN (by simp [cycL]) (by omega) (fun j hj => by rw [cycL_get hj, if_pos hj]) (fun j hj => by rw [if_pos hj, cycR_len]; omega)
      go_wp2
      go_ret2
      exact ⟨_, _, rfl, by rw [← HBW.out]; exact HN.out, by rw [← HBW.out]; exact HBL.out⟩
end Go.Proofs.YtiodednhadnekaaDoor
