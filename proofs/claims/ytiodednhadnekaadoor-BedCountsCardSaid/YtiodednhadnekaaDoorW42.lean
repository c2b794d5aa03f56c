/- Walks: the specification's count. -/
import Derived.Test.YtiodednhadnekaaDoorW41
namespace Go.Proofs.YtiodednhadnekaaDoor
open Go.RowKit Go.Deep
attribute [local go_sem ↓] Go.wp_at_zero Go.wp_at_succ

theorem sumN_succ (f : Nat → Nat) (k : Nat) : sumN f (k + 1) = sumN f k + f k := rfl
theorem sumN_part {f : Nat → Nat} {k n : Nat} (h : k ≤ n) : sumN f k ≤ sumN f n := by
  induction n with
  | zero => obtain rfl : k = 0 := by omega
            exact Nat.le_refl _
  | succ n ih =>
    rcases Nat.lt_or_ge n k with h1 | h1
    · obtain rfl : k = n + 1 := by omega
      exact Nat.le_refl _
    · exact Nat.le_trans (ih h1) (Nat.le_add_right _ _)
theorem Kept.like {Own : World → Nat → Prop} {a b W : World} (h : Kept Own a b) (h1 : W.heap = b.heap) (h2 : W.os = b.os) (h3 : W.tape = b.tape) (h4 : W.output = b.output) (ho : ∀ i, i < a.heap.size → (Own W i ↔ Own b i)) : Kept Own a W :=
  ⟨h2.trans h.os, h3.trans h.tape, h4.trans h.output, by rw [h1]; exact h.size, fun i hi hn => by rw [h1]; exact h.block i hi hn, fun i hi hn => h.own i hi ((ho i hi).1 hn)⟩
theorem Kept.like' {Own : World → Nat → Prop} {a b W : World} (h : Kept Own W b) (h1 : W.heap = a.heap) (h2 : W.os = a.os) (h3 : W.tape = a.tape) (h4 : W.output = a.output) (ho : ∀ i, Own W i ↔ Own a i) : Kept Own a b :=
  ⟨h.os.trans h2, h.tape.trans h3, h.output.trans h4, by rw [← h1]; exact h.size, fun i hi hn => by rw [← h1]; exact h.block i (by rw [h1]; exact hi) (fun h => hn ((ho i).1 h)), fun i hi hn => (ho i).1 (h.own i (by rw [h1]; exact hi) hn)⟩
theorem GridM.heap {w W : World} {gO n : Nat} {gr cr : Nat → Nat} {b : List (List Int)} (h : GridM w gO gr cr n b) (e : W.heap = w.heap) : GridM W gO gr cr n b :=
  ⟨fun r hr => (World.cell?_of_block (congrArg (fun x => x[gO]?) e)).trans (h.hdr r hr), fun r c hr hc => (World.cell?_of_block (congrArg (fun x => x[gr r]?) e)).trans (h.val r c hr hc), fun r hr => by rw [e]; exact h.blk r hr, h.inj, h.cap⟩
/-- What count is shown to do at a bed of which the first places are sown. -/
def CntG (gO : Nat) (gr cr : Nat → Nat) (n cO : Nat) (b : List (List Int)) : Prop := ∀ (w : World) (at_ : Nat), GridM w gO gr cr n b → at_ ≤ n * n → (∀ i, i < at_ → 0 ≤ gAt b (i / n) (i % n)) →
  Calls Tryd.prog 82 #[.slice (some ⟨gO, 0, none⟩) n cO, .int .i64 (at_ : Int)] w fun e w' => e = .returned (.int .i64 (cnt n b : Int)) ∧ Kept (fun _ i => OwnG n gr i) w w' ∧ GridM w' gO gr cr n b
set_option maxRecDepth 100000 in
set_option maxHeartbeats 8000000 in
theorem f82_step (gO : Nat) (gr cr : Nat → Nat) (n cO : Nat) (hn0 : 0 < n) (hn5 : n ≤ 5) (hcO : n ≤ cO) (b : List (List Int)) (hb : IsBed n b) (ih : ∀ r c x, r < n → c < n → gAt b r c < 0 → x ∈ crops n b r c → CntG gO gr cr n cO (gset b r c (x : Nat))) : CntG gO gr cr n cO b := by
  intro w at_ hg hat hall
  have HG := Lib.hid hg
  have HB := Lib.hid hb
  have IH := Lib.hid ih
  have HALL := Lib.hid hall
  have HLE := Lib.hid (cnt_le5 hn5 b)
  have n0 : (0 : Int) < (n : Int) := by omega
  have n5 : (n : Int) ≤ 5 := by omega
  have hnn : n * n ≤ 25 := Nat.le_trans (Nat.mul_le_mul hn5 hn5) (by decide)
  have hne : ¬ ((n : Int) = 0) := by omega
  have hnz : ¬ (n = 0) := by omega
  obtain ⟨N2, hN2⟩ : ∃ z, z = n * n := ⟨_, rfl⟩
  have HN2 := Lib.hid hN2
  have hmul : (n : Int) * (n : Int) = (N2 : Int) := by rw [hN2]; simp
  have HDIV : Hid (∀ a, a < N2 → a / n < n ∧ a % n < n) := Lib.hid fun a ha => ⟨Nat.div_lt_of_lt_mul (by rw [hN2] at ha; exact ha), Nat.mod_lt a hn0⟩
  rw [← hN2] at hat hnn
  clear hg hb ih hall hN2
  go_enter Tryd.func82, Tryd.ntmps82
  go_wp2
  go_loopw [1] (fun ai wr => ∃ a : Nat, a ≤ N2 ∧ ai = .int .i64 (a : Int) ∧ Hid (∀ i, i < a → 0 ≤ gAt b (i / n) (i % n)) ∧ ∃ q, wr = w.drewN q) (fun ai _ => N2 - (intOf ai).toNat)
  case atStart => exact ⟨at_, hat, rfl, HALL.out, 0, rfl⟩
  case round => as_aux_lemma =>
    obtain ⟨a, ha, rfl, hin, q, rfl⟩ := hrel
    have a0 : (0 : Int) ≤ (a : Int) := by omega
    have hd1 : (a : Int).tdiv (n : Int) = ((a / n : Nat) : Int) := by rw [Int.tdiv_eq_ediv_of_nonneg (by omega)]; simp
    have hd2 : (a : Int) / (n : Int) = ((a / n : Nat) : Int) := by simp
    have hm1 : (a : Int).tmod (n : Int) = ((a % n : Nat) : Int) := by rw [Int.tmod_eq_emod_of_nonneg (by omega)]; simp
    have hm2 : (a : Int) % (n : Int) = ((a % n : Nat) : Int) := by simp
    by_cases han : a < N2
    · obtain ⟨hr, hc⟩ := HDIV.out a han
      have aN : (a : Int) < (N2 : Int) := by omega
      have HNX : Hid (0 ≤ gAt b (a / n) (a % n) → ∀ i, i < a + 1 → 0 ≤ gAt b (i / n) (i % n)) := Lib.hid fun h i hi => by
        rcases Nat.lt_or_ge i a with h1 | h1
        · exact hin.out i h1
        · obtain rfl : i = a := by omega
          exact h
      have HSAME : Hid (∀ i, i / n = a / n → i % n = a % n → i = a) := Lib.hid fun i h1 h2 => by
        rw [← Nat.div_add_mod i n, ← Nat.div_add_mod a n, h1, h2]
      have HIN := Lib.hid hin.out
      obtain ⟨r, hr2⟩ : ∃ z, z = a / n := ⟨_, rfl⟩
      obtain ⟨c, hc2⟩ : ∃ z, z = a % n := ⟨_, rfl⟩
      rw [← hr2] at hd1 hd2 hr HNX HSAME
      rw [← hc2] at hm1 hm2 hc HNX HSAME
      have c1 := HG.out.hdr r hr
      have c2 := HG.out.val r c hr hc
      have hwr : IntKind.i64.wrap (r : Int) = (r : Int) := IntWalk.i64_in _ (by omega)
      have hwc : IntKind.i64.wrap (c : Int) = (c : Int) := IntWalk.i64_in _ (by omega)
      have r0 : (0 : Int) ≤ (r : Int) := by omega
      have rn : (r : Int) < (n : Int) := by omega
      have c0 : (0 : Int) ≤ (c : Int) := by omega
      have cn : (c : Int) < (n : Int) := by omega
      have HAC : Hid (a / n = r ∧ a % n = c) := ⟨hr2.symm, hc2.symm⟩
      clear hr2 hc2 hin
      by_cases h0 : 0 ≤ gAt b r c
      · have HE := Lib.hid (HNX.out h0)
        have hq : decide (0 ≤ gAt b r c) = true := decide_eq_true h0
        obtain ⟨u, hu⟩ : ∃ u, u = gAt b r c := ⟨_, rfl⟩
        rw [← hu] at c2 hq
        clear h0 hu HNX
        go_wp2
        go_quiet (fail)
        go_wp2
        go_roundw
        case rel => exact ⟨a + 1, by omega, by go_num, HE.out, by first | exact ⟨_, rfl⟩ | exact ⟨_, World.drewN_drewN _ _ _⟩⟩
        case measure => simp [intOf]; omega
      · have hneg : gAt b r c < 0 := by omega
        have HNEG := Lib.hid hneg
        have hq : decide (0 ≤ gAt b r c) = false := decide_eq_false h0
        have haN : ((a : Int) == (N2 : Int)) = false := by simp; omega
        have HBR := Lib.hid (cnt_branch HB.out.shape hr hc hneg)
        obtain ⟨u, hu⟩ : ∃ u, u = gAt b r c := ⟨_, rfl⟩
        rw [← hu] at c2 hq
        clear h0 hu HNX hneg
        go_wp2
        go_quiet (fail)
        go_wp2
        go_loopw [7, 6] (fun xi si wr => ∃ x S : Nat, x ≤ n ∧ xi = .int .i64 (x : Int) ∧ si = .int .i64 (S : Int) ∧ Hid (S = sumN (fun y => cnt n (gset b r c (y : Nat))) x) ∧ Kept (fun _ i => OwnG n gr i) w wr ∧ GridM wr gO gr cr n b) (fun xi _ _ => n - (intOf xi).toNat)
        case atStart => exact ⟨0, 0, by omega, rfl, rfl, rfl, ⟨rfl, rfl, rfl, Nat.le_refl _, fun _ _ _ => rfl, fun _ _ h => h⟩, HG.out.heap rfl⟩
        case round => as_aux_lemma =>
          obtain ⟨x, S, hx, rfl, rfl, hS, hk, hg⟩ := hrel
          have HK := Lib.hid hk
          have HGr := Lib.hid hg
          have HS := Lib.hid hS.out
          by_cases hxn : x < n
          · have K52 : Hid (∀ W : World, W.heap = wr.heap → Calls Tryd.prog 52 #[.slice (some ⟨gO, 0, none⟩) n cO, .int .i64 (r : Int), .int .i64 (c : Int), .int .i64 (x : Int)] W fun e w' => e = .returned (.bool (freeB n b r c x)) ∧ W = w') := Lib.hid fun W e => f52_any _ n cO r c x b W ((hg.heap e).beds HB.out.shape (by omega) hcO) HB.out.shape hr hc
            have x0 : (0 : Int) ≤ (x : Int) := by omega
            have xn : (x : Int) < (n : Int) := by omega
            cases hfr : freeB n b r c x
            · skip
              rw [hfr] at K52
              have HN : Hid (S = sumN (fun y => cnt n (gset b r c (y : Nat))) (x + 1)) := Lib.hid (by
                have h1 : cnt n (gset b r c (x : Nat)) = 0 := cnt_notfree HB.out.shape hr hc HNEG.out (by omega) (fun h => by rw [freeB_iff.2 h] at hfr; cases hfr)
                rw [sumN_succ, h1, Nat.add_zero]; exact HS.out)
              clear hk hg hS hfr c1 c2
              go_wp2_with fail
              refine wp_region_held_drew (S := fun _ => True) (by kernel_rfl) trivial (fun _ => ?_)
              refine wpAnyH_take (i := 0) (oi := { dst := some 41, op := Op.move (Operand.tmp 0), type := 22, pos := "ref.go:174", after := #[], guard := none }) (v := .slice (some ⟨gO, 0, none⟩) n cO) rfl (by kernel_rfl) (by kernel_rfl) (by kernel_rfl) (fun _ _ _ h => h) (Or.inl ⟨by kernel_rfl, fun W _ => by kernel_rfl⟩) trivial ?_
              try simp only [Act.put, List.setIfInBounds_toArray, List.set_cons_zero, List.set_cons_succ]
              refine wpAnyH_take (i := 1) (oi := { dst := some 42, op := Op.move (Operand.tmp 1), type := 3, pos := "ref.go:174", after := #[], guard := none }) (v := .int .i64 (a : Int)) rfl (by kernel_rfl) (by kernel_rfl) (by kernel_rfl) (fun _ _ _ h => h) (Or.inl ⟨by kernel_rfl, fun W _ => by kernel_rfl⟩) trivial ?_
              try simp only [Act.put, List.setIfInBounds_toArray, List.set_cons_zero, List.set_cons_succ]
              refine wpAnyH_take (i := 2) (oi := { dst := some 43, op := Op.move (Operand.tmp 5), type := 3, pos := "ref.go:174", after := #[], guard := none }) (v := .int .i64 (n : Int)) rfl (by kernel_rfl) (by kernel_rfl) (by kernel_rfl) (fun _ _ _ h => h) (Or.inl ⟨by kernel_rfl, fun W _ => by kernel_rfl⟩) trivial ?_
              try simp only [Act.put, List.setIfInBounds_toArray, List.set_cons_zero, List.set_cons_succ]
              refine wpAnyH_take (i := 3) (oi := { dst := some 44, op := Op.binOp BinOp.quo 3 (Operand.tmp 42) (Operand.tmp 43) 3, type := 3, pos := "ref.go:174", after := #[{ on := 1, ground := Ground.data }, { on := 2, ground := Ground.data }], guard := none }) (v := .int .i64 (r : Int)) rfl (by kernel_rfl) (by kernel_rfl) (by kernel_rfl) (fun _ _ _ h => h) (Or.inl ⟨by kernel_rfl, fun W _ => by go_simp⟩) trivial ?_
              try simp only [Act.put, List.setIfInBounds_toArray, List.set_cons_zero, List.set_cons_succ]
              refine wpAnyH_take (i := 4) (oi := { dst := some 45, op := Op.move (Operand.tmp 1), type := 3, pos := "ref.go:174", after := #[], guard := none }) (v := .int .i64 (a : Int)) rfl (by kernel_rfl) (by kernel_rfl) (by kernel_rfl) (fun _ _ _ h => h) (Or.inl ⟨by kernel_rfl, fun W _ => by kernel_rfl⟩) trivial ?_
              try simp only [Act.put, List.setIfInBounds_toArray, List.set_cons_zero, List.set_cons_succ]
              refine wpAnyH_take (i := 5) (oi := { dst := some 46, op := Op.move (Operand.tmp 5), type := 3, pos := "ref.go:174", after := #[], guard := none }) (v := .int .i64 (n : Int)) rfl (by kernel_rfl) (by kernel_rfl) (by kernel_rfl) (fun _ _ _ h => h) (Or.inl ⟨by kernel_rfl, fun W _ => by kernel_rfl⟩) trivial ?_
              try simp only [Act.put, List.setIfInBounds_toArray, List.set_cons_zero, List.set_cons_succ]
              refine wpAnyH_take (i := 6) (oi := { dst := some 47, op := Op.binOp BinOp.rem 3 (Operand.tmp 45) (Operand.tmp 46) 3, type := 3, pos := "ref.go:174", after := #[{ on := 4, ground := Ground.data }, { on := 5, ground := Ground.data }], guard := none }) (v := .int .i64 (c : Int)) rfl (by kernel_rfl) (by kernel_rfl) (by kernel_rfl) (fun _ _ _ h => h) (Or.inl ⟨by kernel_rfl, fun W _ => by go_simp⟩) trivial ?_
              try simp only [Act.put, List.setIfInBounds_toArray, List.set_cons_zero, List.set_cons_succ]
              refine wpAnyH_take (i := 7) (oi := { dst := some 48, op := Op.move (Operand.tmp 7), type := 3, pos := "ref.go:174", after := #[], guard := none }) (v := .int .i64 (x : Int)) rfl (by kernel_rfl) (by kernel_rfl) (by kernel_rfl) (fun _ _ _ h => h) (Or.inl ⟨by kernel_rfl, fun W _ => by kernel_rfl⟩) trivial ?_
              try simp only [Act.put, List.setIfInBounds_toArray, List.set_cons_zero, List.set_cons_succ]
              refine wpAnyH_ready (rs := [8]) (by kernel_rfl) (by simp) ?_
              refine AllReadyH.cons (o := { dst := some 49, op := Op.call { callee := Callee.value (Operand.func 52), args := #[Operand.tmp 41, Operand.tmp 44, Operand.tmp 47, Operand.tmp 48], argTypes := #[22, 3, 3, 3] }, type := 4, pos := "ref.go:174", after := #[{ on := 0, ground := Ground.data }, { on := 3, ground := Ground.data }, { on := 6, ground := Ground.data }, { on := 7, ground := Ground.data }], guard := none }) rfl (fun K hK => ?_) AllReadyH.nil
              go_simp
              refine (K52.out _ (by rfl)).mono ?_
              rintro e w4 ⟨rfl, rfl⟩
              refine hK.out _ _ trivial (fun _ => ?_)
              clear hK K
              try simp only [Act.put, List.setIfInBounds_toArray, List.set_cons_zero, List.set_cons_succ]
              refine wpAnyH_done (by kernel_rfl) ?_ _
              go_wp2
              go_roundw
              case rel => exact ⟨x + 1, S, by omega, by go_num, rfl, HN.out, HK.out.like rfl rfl rfl rfl (fun _ _ => Iff.rfl), HGr.out.heap rfl⟩
              case measure => simp [intOf]; omega
            · skip
              rw [hfr] at K52
              have hmem : x ∈ crops n b r c := mem_crops.2 ⟨hxn, freeB_iff.1 hfr⟩
              obtain ⟨N, hN⟩ : ∃ z, z = cnt n (gset b r c (x : Nat)) := ⟨_, rfl⟩
              have HNS : Hid (S + N = sumN (fun y => cnt n (gset b r c (y : Nat))) (x + 1)) := Lib.hid (by rw [sumN_succ, ← HS.out, hN])
              have hbound : S + N ≤ 298023223876953125 := by
                have h1 := HLE.out
                rw [HBR.out] at h1
                have h2 := sumN_part (f := fun y => cnt n (gset b r c (y : Nat))) (show x + 1 ≤ n by omega)
                rw [← HNS.out] at h2
                omega
              have c3 := hg.hdr r hr
              have c4 := hg.val r c hr hc
              have f4 := hg.frozen hr c
              have HNE := Lib.hid (hg.ne hr)
              have G2 := Lib.hid (hg.set_ HB.out.shape hr hc (x : Int))
              have KK2 := Lib.hid (GridM.turned hk hr c (.int .i64 (x : Int)))
              have HALL2 : Hid (∀ i, i < a + 1 → 0 ≤ gAt (gset b r c (x : Nat)) (i / n) (i % n)) := Lib.hid fun i hi => by
                rw [gAt_gset HB.out.shape hr hc]
                by_cases e : i / n = r ∧ i % n = c
                · rw [if_pos e]; omega
                · rw [if_neg e]
                  rcases Nat.lt_or_ge i a with h1 | h1
                  · exact HIN.out i h1
                  · obtain rfl : i = a := by omega
                    exact absurd HAC.out e
              have K82 : Hid (∀ W : World, W.heap = (wr.setCell ⟨gr r, c, none⟩ (.int .i64 (x : Int))).heap → Calls Tryd.prog 82 #[.slice (some ⟨gO, 0, none⟩) n cO, .int .i64 ((a : Int) + 1)] W fun e w' => e = .returned (.int .i64 (N : Int)) ∧ Kept (fun _ i => OwnG n gr i) W w' ∧ GridM w' gO gr cr n (gset b r c (x : Nat))) := Lib.hid fun W e => by
                have h := IH.out r c x hr hc HNEG.out hmem W (a + 1) (G2.out.heap e) (by rw [← HN2.out]; omega) HALL2.out
                rw [← hN] at h
                exact h
              have HSH := Lib.hid (gset_shape HB.out.shape r c (x : Int))
              have HBACK : Hid (gset (gset b r c (x : Int)) r c (-1) = b) := Lib.hid (by
                have h1 := (HB.out.lo r c hr hc).1
                have e : gAt b r c = -1 := by have := HNEG.out; omega
                rw [gset_gset HB.out.shape hr hc, ← e, gset_same HB.out.shape hr hc])
              clear hk hg hS hfr c1 c2 hmem hN
              go_wp2_with fail
              refine wp_region_held_drew (S := fun _ => True) (by kernel_rfl) trivial (fun _ => ?_)
              refine wpAnyH_take (i := 0) (oi := { dst := some 41, op := Op.move (Operand.tmp 0), type := 22, pos := "ref.go:174", after := #[], guard := none }) (v := .slice (some ⟨gO, 0, none⟩) n cO) rfl (by kernel_rfl) (by kernel_rfl) (by kernel_rfl) (fun _ _ _ h => h) (Or.inl ⟨by kernel_rfl, fun W _ => by kernel_rfl⟩) trivial ?_
              try simp only [Act.put, List.setIfInBounds_toArray, List.set_cons_zero, List.set_cons_succ]
              refine wpAnyH_take (i := 1) (oi := { dst := some 42, op := Op.move (Operand.tmp 1), type := 3, pos := "ref.go:174", after := #[], guard := none }) (v := .int .i64 (a : Int)) rfl (by kernel_rfl) (by kernel_rfl) (by kernel_rfl) (fun _ _ _ h => h) (Or.inl ⟨by kernel_rfl, fun W _ => by kernel_rfl⟩) trivial ?_
              try simp only [Act.put, List.setIfInBounds_toArray, List.set_cons_zero, List.set_cons_succ]
              refine wpAnyH_take (i := 2) (oi := { dst := some 43, op := Op.move (Operand.tmp 5), type := 3, pos := "ref.go:174", after := #[], guard := none }) (v := .int .i64 (n : Int)) rfl (by kernel_rfl) (by kernel_rfl) (by kernel_rfl) (fun _ _ _ h => h) (Or.inl ⟨by kernel_rfl, fun W _ => by kernel_rfl⟩) trivial ?_
              try simp only [Act.put, List.setIfInBounds_toArray, List.set_cons_zero, List.set_cons_succ]
              refine wpAnyH_take (i := 3) (oi := { dst := some 44, op := Op.binOp BinOp.quo 3 (Operand.tmp 42) (Operand.tmp 43) 3, type := 3, pos := "ref.go:174", after := #[{ on := 1, ground := Ground.data }, { on := 2, ground := Ground.data }], guard := none }) (v := .int .i64 (r : Int)) rfl (by kernel_rfl) (by kernel_rfl) (by kernel_rfl) (fun _ _ _ h => h) (Or.inl ⟨by kernel_rfl, fun W _ => by go_simp⟩) trivial ?_
              try simp only [Act.put, List.setIfInBounds_toArray, List.set_cons_zero, List.set_cons_succ]
              refine wpAnyH_take (i := 4) (oi := { dst := some 45, op := Op.move (Operand.tmp 1), type := 3, pos := "ref.go:174", after := #[], guard := none }) (v := .int .i64 (a : Int)) rfl (by kernel_rfl) (by kernel_rfl) (by kernel_rfl) (fun _ _ _ h => h) (Or.inl ⟨by kernel_rfl, fun W _ => by kernel_rfl⟩) trivial ?_
              try simp only [Act.put, List.setIfInBounds_toArray, List.set_cons_zero, List.set_cons_succ]
              refine wpAnyH_take (i := 5) (oi := { dst := some 46, op := Op.move (Operand.tmp 5), type := 3, pos := "ref.go:174", after := #[], guard := none }) (v := .int .i64 (n : Int)) rfl (by kernel_rfl) (by kernel_rfl) (by kernel_rfl) (fun _ _ _ h => h) (Or.inl ⟨by kernel_rfl, fun W _ => by kernel_rfl⟩) trivial ?_
              try simp only [Act.put, List.setIfInBounds_toArray, List.set_cons_zero, List.set_cons_succ]
              refine wpAnyH_take (i := 6) (oi := { dst := some 47, op := Op.binOp BinOp.rem 3 (Operand.tmp 45) (Operand.tmp 46) 3, type := 3, pos := "ref.go:174", after := #[{ on := 4, ground := Ground.data }, { on := 5, ground := Ground.data }], guard := none }) (v := .int .i64 (c : Int)) rfl (by kernel_rfl) (by kernel_rfl) (by kernel_rfl) (fun _ _ _ h => h) (Or.inl ⟨by kernel_rfl, fun W _ => by go_simp⟩) trivial ?_
              try simp only [Act.put, List.setIfInBounds_toArray, List.set_cons_zero, List.set_cons_succ]
              refine wpAnyH_take (i := 7) (oi := { dst := some 48, op := Op.move (Operand.tmp 7), type := 3, pos := "ref.go:174", after := #[], guard := none }) (v := .int .i64 (x : Int)) rfl (by kernel_rfl) (by kernel_rfl) (by kernel_rfl) (fun _ _ _ h => h) (Or.inl ⟨by kernel_rfl, fun W _ => by kernel_rfl⟩) trivial ?_
              try simp only [Act.put, List.setIfInBounds_toArray, List.set_cons_zero, List.set_cons_succ]
              refine wpAnyH_ready (rs := [8]) (by kernel_rfl) (by simp) ?_
              refine AllReadyH.cons (o := { dst := some 49, op := Op.call { callee := Callee.value (Operand.func 52), args := #[Operand.tmp 41, Operand.tmp 44, Operand.tmp 47, Operand.tmp 48], argTypes := #[22, 3, 3, 3] }, type := 4, pos := "ref.go:174", after := #[{ on := 0, ground := Ground.data }, { on := 3, ground := Ground.data }, { on := 6, ground := Ground.data }, { on := 7, ground := Ground.data }], guard := none }) rfl (fun K hK => ?_) AllReadyH.nil
              go_simp
              refine (K52.out _ (by rfl)).mono ?_
              rintro e w4 ⟨rfl, rfl⟩
              refine hK.out _ _ trivial (fun _ => ?_)
              clear hK K
              try simp only [Act.put, List.setIfInBounds_toArray, List.set_cons_zero, List.set_cons_succ]
              refine wpAnyH_done (by kernel_rfl) ?_ _
              go_wp2_with fail
              refine wp_region_held_drew (S := fun W => W.cell? ⟨gO, r, none⟩ = some (.slice (some ⟨gr r, 0, none⟩) n (cr r))) (by kernel_rfl) (c3) (fun hS => ?_)
              refine wpAnyH_take (i := 0) (oi := { dst := some 50, op := Op.move (Operand.tmp 0), type := 22, pos := "ref.go:175", after := #[], guard := none }) (v := .slice (some ⟨gO, 0, none⟩) n cO) rfl (by kernel_rfl) (by kernel_rfl) (by kernel_rfl) (fun _ _ _ h => h) (Or.inl ⟨by kernel_rfl, fun W hSW => by kernel_rfl⟩) hS ?_
              try simp only [Act.put, List.setIfInBounds_toArray, List.set_cons_zero, List.set_cons_succ]
              refine wpAnyH_take (i := 1) (oi := { dst := some 51, op := Op.move (Operand.tmp 1), type := 3, pos := "ref.go:175", after := #[], guard := none }) (v := .int .i64 (a : Int)) rfl (by kernel_rfl) (by kernel_rfl) (by kernel_rfl) (fun _ _ _ h => h) (Or.inl ⟨by kernel_rfl, fun W hSW => by kernel_rfl⟩) hS ?_
              try simp only [Act.put, List.setIfInBounds_toArray, List.set_cons_zero, List.set_cons_succ]
              refine wpAnyH_take (i := 2) (oi := { dst := some 52, op := Op.move (Operand.tmp 5), type := 3, pos := "ref.go:175", after := #[], guard := none }) (v := .int .i64 (n : Int)) rfl (by kernel_rfl) (by kernel_rfl) (by kernel_rfl) (fun _ _ _ h => h) (Or.inl ⟨by kernel_rfl, fun W hSW => by kernel_rfl⟩) hS ?_
              try simp only [Act.put, List.setIfInBounds_toArray, List.set_cons_zero, List.set_cons_succ]
              refine wpAnyH_take (i := 3) (oi := { dst := some 53, op := Op.binOp BinOp.quo 3 (Operand.tmp 51) (Operand.tmp 52) 3, type := 3, pos := "ref.go:175", after := #[{ on := 1, ground := Ground.data }, { on := 2, ground := Ground.data }], guard := none }) (v := .int .i64 (r : Int)) rfl (by kernel_rfl) (by kernel_rfl) (by kernel_rfl) (fun _ _ _ h => h) (Or.inl ⟨by kernel_rfl, fun W hSW => by go_simp⟩) hS ?_
              try simp only [Act.put, List.setIfInBounds_toArray, List.set_cons_zero, List.set_cons_succ]
              refine wpAnyH_take (i := 4) (oi := { dst := some 54, op := Op.indexAddr 22 (Operand.tmp 50) (Operand.tmp 53), type := 0, pos := "ref.go:175", after := #[{ on := 0, ground := Ground.data }, { on := 3, ground := Ground.data }], guard := none }) (v := .pointer (some ⟨gO, r, none⟩)) rfl (by kernel_rfl) (by kernel_rfl) (by kernel_rfl) (fun _ _ _ h => h) (Or.inl ⟨by kernel_rfl, fun W hSW => by go_simp⟩) hS ?_
              try simp only [Act.put, List.setIfInBounds_toArray, List.set_cons_zero, List.set_cons_succ]
              refine wpAnyH_take (i := 5) (oi := { dst := some 55, op := Op.load 29 (Operand.tmp 54), type := 29, pos := "ref.go:175", after := #[{ on := 4, ground := Ground.data }], guard := none }) (v := .slice (some ⟨gr r, 0, none⟩) n (cr r)) rfl (by kernel_rfl) (by kernel_rfl) (by kernel_rfl) (fun _ _ _ h => h) (Or.inl ⟨by kernel_rfl, fun W hSW => by have h1 := hSW; go_simp⟩) hS ?_
              try simp only [Act.put, List.setIfInBounds_toArray, List.set_cons_zero, List.set_cons_succ]
              refine wpAnyH_take (i := 6) (oi := { dst := some 56, op := Op.move (Operand.tmp 1), type := 3, pos := "ref.go:175", after := #[], guard := none }) (v := .int .i64 (a : Int)) rfl (by kernel_rfl) (by kernel_rfl) (by kernel_rfl) (fun _ _ _ h => h) (Or.inl ⟨by kernel_rfl, fun W hSW => by kernel_rfl⟩) hS ?_
              try simp only [Act.put, List.setIfInBounds_toArray, List.set_cons_zero, List.set_cons_succ]
              refine wpAnyH_take (i := 7) (oi := { dst := some 57, op := Op.move (Operand.tmp 5), type := 3, pos := "ref.go:175", after := #[], guard := none }) (v := .int .i64 (n : Int)) rfl (by kernel_rfl) (by kernel_rfl) (by kernel_rfl) (fun _ _ _ h => h) (Or.inl ⟨by kernel_rfl, fun W hSW => by kernel_rfl⟩) hS ?_
              try simp only [Act.put, List.setIfInBounds_toArray, List.set_cons_zero, List.set_cons_succ]
              refine wpAnyH_take (i := 8) (oi := { dst := some 58, op := Op.binOp BinOp.rem 3 (Operand.tmp 56) (Operand.tmp 57) 3, type := 3, pos := "ref.go:175", after := #[{ on := 6, ground := Ground.data }, { on := 7, ground := Ground.data }], guard := none }) (v := .int .i64 (c : Int)) rfl (by kernel_rfl) (by kernel_rfl) (by kernel_rfl) (fun _ _ _ h => h) (Or.inl ⟨by kernel_rfl, fun W hSW => by go_simp⟩) hS ?_
              try simp only [Act.put, List.setIfInBounds_toArray, List.set_cons_zero, List.set_cons_succ]
              refine wpAnyH_take (i := 9) (oi := { dst := some 59, op := Op.move (Operand.tmp 7), type := 3, pos := "ref.go:175", after := #[], guard := none }) (v := .int .i64 (x : Int)) rfl (by kernel_rfl) (by kernel_rfl) (by kernel_rfl) (fun _ _ _ h => h) (Or.inl ⟨by kernel_rfl, fun W hSW => by kernel_rfl⟩) hS ?_
              try simp only [Act.put, List.setIfInBounds_toArray, List.set_cons_zero, List.set_cons_succ]
              refine wpAnyH_take (i := 10) (oi := { dst := some 60, op := Op.indexAddr 29 (Operand.tmp 55) (Operand.tmp 58), type := 0, pos := "ref.go:175", after := #[{ on := 5, ground := Ground.data }, { on := 8, ground := Ground.data }, { on := 0, ground := Ground.phase }, { on := 1, ground := Ground.phase }, { on := 2, ground := Ground.phase }, { on := 3, ground := Ground.phase }, { on := 4, ground := Ground.phase }, { on := 5, ground := Ground.phase }, { on := 6, ground := Ground.phase }, { on := 7, ground := Ground.phase }, { on := 8, ground := Ground.phase }, { on := 9, ground := Ground.phase }], guard := none }) (v := .pointer (some ⟨gr r, c, none⟩)) rfl (by kernel_rfl) (by kernel_rfl) (by kernel_rfl) (fun _ _ _ h => h) (Or.inl ⟨by kernel_rfl, fun W hSW => by go_simp⟩) hS ?_
              try simp only [Act.put, List.setIfInBounds_toArray, List.set_cons_zero, List.set_cons_succ]
              refine wpAnyH_ready (rs := [11]) (by kernel_rfl) (by simp) ?_
              refine AllReadyH.cons (o := { dst := none, op := Op.store 3 (Operand.tmp 60) (Operand.tmp 59), type := 0, pos := "ref.go:175", after := #[{ on := 10, ground := Ground.data }, { on := 9, ground := Ground.data }, { on := 0, ground := Ground.phase }, { on := 1, ground := Ground.phase }, { on := 2, ground := Ground.phase }, { on := 3, ground := Ground.phase }, { on := 4, ground := Ground.phase }, { on := 5, ground := Ground.phase }, { on := 6, ground := Ground.phase }, { on := 7, ground := Ground.phase }, { on := 8, ground := Ground.phase }, { on := 9, ground := Ground.phase }], guard := none }) rfl (fun K hK => ?_) AllReadyH.nil
              go_simp
              refine hK.out _ _ ((World.cell?_setCell_other _ ⟨gr r, c, none⟩ ⟨gO, r, none⟩ _ (fun e => HNE.out (by injection e))).trans hS) (fun hS => ?_)
              clear hK K
              try simp only [Act.put, List.setIfInBounds_toArray, List.set_cons_zero, List.set_cons_succ]
              refine wpAnyH_done (by kernel_rfl) ?_ _
              clear hS
              go_wp2_with fail
              refine (K82.out _ (by rfl)).mono ?_
              rintro e w5 ⟨rfl, hk5, hg5⟩
              have K5 : Hid (Kept (fun _ i => OwnG n gr i) w w5) := Lib.hid (KK2.out.trans (hk5.like' rfl rfl rfl rfl (fun _ => Iff.rfl)))
              have c5 := hg5.hdr r hr
              have c6 := hg5.val r c hr hc
              have f6 := hg5.frozen hr c
              have G6 : Hid (GridM (w5.setCell ⟨gr r, c, none⟩ (.int .i64 (-1))) gO gr cr n b) := Lib.hid (by
                have h := hg5.set_ HSH.out hr hc (-1)
                rw [HBACK.out] at h
                exact h)
              have K6 := Lib.hid (GridM.turned K5.out hr c (.int .i64 (-1)))
              clear hk5 hg5 c3 c4 f4
              go_wp2_with fail
              refine wp_region_held_drew (S := fun W => W.cell? ⟨gO, r, none⟩ = some (.slice (some ⟨gr r, 0, none⟩) n (cr r))) (by kernel_rfl) (c5) (fun hS => ?_)
              refine wpAnyH_take (i := 0) (oi := { dst := some 67, op := Op.move (Operand.tmp 0), type := 22, pos := "ref.go:177", after := #[], guard := none }) (v := .slice (some ⟨gO, 0, none⟩) n cO) rfl (by kernel_rfl) (by kernel_rfl) (by kernel_rfl) (fun _ _ _ h => h) (Or.inl ⟨by kernel_rfl, fun W hSW => by kernel_rfl⟩) hS ?_
              try simp only [Act.put, List.setIfInBounds_toArray, List.set_cons_zero, List.set_cons_succ]
              refine wpAnyH_take (i := 1) (oi := { dst := some 68, op := Op.move (Operand.tmp 1), type := 3, pos := "ref.go:177", after := #[], guard := none }) (v := .int .i64 (a : Int)) rfl (by kernel_rfl) (by kernel_rfl) (by kernel_rfl) (fun _ _ _ h => h) (Or.inl ⟨by kernel_rfl, fun W hSW => by kernel_rfl⟩) hS ?_
              try simp only [Act.put, List.setIfInBounds_toArray, List.set_cons_zero, List.set_cons_succ]
              refine wpAnyH_take (i := 2) (oi := { dst := some 69, op := Op.move (Operand.tmp 5), type := 3, pos := "ref.go:177", after := #[], guard := none }) (v := .int .i64 (n : Int)) rfl (by kernel_rfl) (by kernel_rfl) (by kernel_rfl) (fun _ _ _ h => h) (Or.inl ⟨by kernel_rfl, fun W hSW => by kernel_rfl⟩) hS ?_
              try simp only [Act.put, List.setIfInBounds_toArray, List.set_cons_zero, List.set_cons_succ]
              refine wpAnyH_take (i := 3) (oi := { dst := some 70, op := Op.binOp BinOp.quo 3 (Operand.tmp 68) (Operand.tmp 69) 3, type := 3, pos := "ref.go:177", after := #[{ on := 1, ground := Ground.data }, { on := 2, ground := Ground.data }], guard := none }) (v := .int .i64 (r : Int)) rfl (by kernel_rfl) (by kernel_rfl) (by kernel_rfl) (fun _ _ _ h => h) (Or.inl ⟨by kernel_rfl, fun W hSW => by go_simp⟩) hS ?_
              try simp only [Act.put, List.setIfInBounds_toArray, List.set_cons_zero, List.set_cons_succ]
              refine wpAnyH_take (i := 4) (oi := { dst := some 71, op := Op.indexAddr 22 (Operand.tmp 67) (Operand.tmp 70), type := 0, pos := "ref.go:177", after := #[{ on := 0, ground := Ground.data }, { on := 3, ground := Ground.data }], guard := none }) (v := .pointer (some ⟨gO, r, none⟩)) rfl (by kernel_rfl) (by kernel_rfl) (by kernel_rfl) (fun _ _ _ h => h) (Or.inl ⟨by kernel_rfl, fun W hSW => by go_simp⟩) hS ?_
              try simp only [Act.put, List.setIfInBounds_toArray, List.set_cons_zero, List.set_cons_succ]
              refine wpAnyH_take (i := 5) (oi := { dst := some 72, op := Op.load 29 (Operand.tmp 71), type := 29, pos := "ref.go:177", after := #[{ on := 4, ground := Ground.data }], guard := none }) (v := .slice (some ⟨gr r, 0, none⟩) n (cr r)) rfl (by kernel_rfl) (by kernel_rfl) (by kernel_rfl) (fun _ _ _ h => h) (Or.inl ⟨by kernel_rfl, fun W hSW => by have h1 := hSW; go_simp⟩) hS ?_
              try simp only [Act.put, List.setIfInBounds_toArray, List.set_cons_zero, List.set_cons_succ]
              refine wpAnyH_take (i := 6) (oi := { dst := some 73, op := Op.move (Operand.tmp 1), type := 3, pos := "ref.go:177", after := #[], guard := none }) (v := .int .i64 (a : Int)) rfl (by kernel_rfl) (by kernel_rfl) (by kernel_rfl) (fun _ _ _ h => h) (Or.inl ⟨by kernel_rfl, fun W hSW => by kernel_rfl⟩) hS ?_
              try simp only [Act.put, List.setIfInBounds_toArray, List.set_cons_zero, List.set_cons_succ]
              refine wpAnyH_take (i := 7) (oi := { dst := some 74, op := Op.move (Operand.tmp 5), type := 3, pos := "ref.go:177", after := #[], guard := none }) (v := .int .i64 (n : Int)) rfl (by kernel_rfl) (by kernel_rfl) (by kernel_rfl) (fun _ _ _ h => h) (Or.inl ⟨by kernel_rfl, fun W hSW => by kernel_rfl⟩) hS ?_
              try simp only [Act.put, List.setIfInBounds_toArray, List.set_cons_zero, List.set_cons_succ]
              refine wpAnyH_take (i := 8) (oi := { dst := some 75, op := Op.binOp BinOp.rem 3 (Operand.tmp 73) (Operand.tmp 74) 3, type := 3, pos := "ref.go:177", after := #[{ on := 6, ground := Ground.data }, { on := 7, ground := Ground.data }], guard := none }) (v := .int .i64 (c : Int)) rfl (by kernel_rfl) (by kernel_rfl) (by kernel_rfl) (fun _ _ _ h => h) (Or.inl ⟨by kernel_rfl, fun W hSW => by go_simp⟩) hS ?_
              try simp only [Act.put, List.setIfInBounds_toArray, List.set_cons_zero, List.set_cons_succ]
              refine wpAnyH_take (i := 9) (oi := { dst := some 76, op := Op.indexAddr 29 (Operand.tmp 72) (Operand.tmp 75), type := 0, pos := "ref.go:177", after := #[{ on := 5, ground := Ground.data }, { on := 8, ground := Ground.data }, { on := 0, ground := Ground.phase }, { on := 1, ground := Ground.phase }, { on := 2, ground := Ground.phase }, { on := 3, ground := Ground.phase }, { on := 4, ground := Ground.phase }, { on := 5, ground := Ground.phase }, { on := 6, ground := Ground.phase }, { on := 7, ground := Ground.phase }, { on := 8, ground := Ground.phase }], guard := none }) (v := .pointer (some ⟨gr r, c, none⟩)) rfl (by kernel_rfl) (by kernel_rfl) (by kernel_rfl) (fun _ _ _ h => h) (Or.inl ⟨by kernel_rfl, fun W hSW => by go_simp⟩) hS ?_
              try simp only [Act.put, List.setIfInBounds_toArray, List.set_cons_zero, List.set_cons_succ]
              refine wpAnyH_ready (rs := [10]) (by kernel_rfl) (by simp) ?_
              refine AllReadyH.cons (o := { dst := none, op := Op.store 3 (Operand.tmp 76) (Operand.const (Value.int IntKind.i64 (-1))), type := 0, pos := "ref.go:177", after := #[{ on := 9, ground := Ground.data }, { on := 0, ground := Ground.phase }, { on := 1, ground := Ground.phase }, { on := 2, ground := Ground.phase }, { on := 3, ground := Ground.phase }, { on := 4, ground := Ground.phase }, { on := 5, ground := Ground.phase }, { on := 6, ground := Ground.phase }, { on := 7, ground := Ground.phase }, { on := 8, ground := Ground.phase }], guard := none }) rfl (fun K hK => ?_) AllReadyH.nil
              go_simp
              refine hK.out _ _ ((World.cell?_setCell_other _ ⟨gr r, c, none⟩ ⟨gO, r, none⟩ _ (fun e => HNE.out (by injection e))).trans hS) (fun hS => ?_)
              clear hK K
              try simp only [Act.put, List.setIfInBounds_toArray, List.set_cons_zero, List.set_cons_succ]
              refine wpAnyH_done (by kernel_rfl) ?_ _
              clear hS
              go_wp2
              go_roundw
              case rel => exact ⟨x + 1, S + N, by omega, by go_num, by go_num, HNS.out, K6.out.like rfl rfl rfl rfl (fun _ _ => Iff.rfl), G6.out.heap rfl⟩
              case measure => simp [intOf]; omega
          · skip
            obtain rfl : x = n := by omega
            have HE : Hid (S = cnt x b) := Lib.hid (by rw [HBR.out]; exact HS.out)
            clear hk hg hS
            go_wp2
            go_ret
            exact ⟨ret_int (by rw [← HE.out]), HK.out, HGr.out⟩
    · obtain rfl : a = N2 := by omega
      have haN : ((a : Int) == (a : Int)) = true := by simp
      have HE : Hid (cnt n b = 1) := Lib.hid (cnt_full ⟨HB.out.shape, fun r c hr hc => ⟨by
        have h1 := hin.out (r * n + c) (by
          rw [HN2.out]
          have : r * n + c < (r + 1) * n := by rw [Nat.succ_mul]; omega
          exact Nat.lt_of_lt_of_le this (Nat.mul_le_mul_right n hr))
        rw [Nat.mul_comm, Nat.mul_add_div hn0, Nat.mul_add_mod, Nat.div_eq_of_lt hc, Nat.mod_eq_of_lt hc, Nat.add_zero] at h1
        exact h1, (HB.out.lo r c hr hc).2⟩, HB.out.once⟩)
      clear hin hd1 hd2 hm1 hm2
      go_wp2
      go_quiet (fail)
      go_wp2
      go_ret
      exact ⟨ret_int (by rw [HE.out]; rfl), (Kept.refl _ _).trans ⟨rfl, rfl, rfl, Nat.le_refl _, fun _ _ _ => rfl, fun _ _ h => h⟩, HG.out.drewN _⟩
end Go.Proofs.YtiodednhadnekaaDoor
