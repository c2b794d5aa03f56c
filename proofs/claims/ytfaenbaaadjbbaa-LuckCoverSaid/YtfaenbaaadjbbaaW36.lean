/- Walk: LuckCover. -/
import Derived.Test.YtfaenbaaadjbbaaW34
import Derived.Test.YtfaenbaaadjbbaaW32
namespace Go.Proofs.Ytfaenbaaadjbbaa
open Go.RowKit

theorem u16_rem (a : Int) (len : Nat) (h : 0 ≤ a ∧ a ≤ 65535) (hp : 0 < len) : ∃ x : Nat, x < len ∧ a.tmod (len : Int) = (x : Int) := by
  obtain ⟨b, rfl⟩ := nat_of a h.1
  refine ⟨b % len, Nat.mod_lt _ hp, ?_⟩
  rw [Int.tmod_eq_emod_of_nonneg (by omega)]; simp
/-- What LuckCover asks for. -/
theorem cover_law {k n : Nat} {goal : List Int} (hok : goalOk k goal = true) (hn : n = 2 ^ k) (nb : Bool) (hnb : nb = true ↔ Near k goal) (s : Nat) (hs : s < n) :
    canE k goal = 0 ∧ canR k goal = (if canB k goal = true then 1 else 0) ∧ (canB k goal = true → ((30 * k * n : Nat) : Int) ≤ blk goal k 0) ∧
    (canB k goal = false → loE k goal s = 10 ∧ (((30 * k * n : Nat) : Int) ≤ blk goal k 0 → nb = false)) ∧
    (canB k goal = true → loE k goal s = 0 ∧ ∃ x y : Nat, loX k goal s = x ∧ loY k goal s = y ∧ 1 ≤ y ∧ x ≤ 1228800 ∧ y ≤ 122880 ∧ (nb = true → 60 * (x : Int) ≤ goal.getD s 0 * y)) := by
  obtain ⟨m, e, g1, g2, g3, g4⟩ := goalOk_facts hok
  obtain rfl : k = m := by omega
  have hE : ((30 * k * n : Nat) : Int) = 30 * k * 2 ^ k := by rw [hn]; simp
  have hp : 2 ^ k ≤ 1024 := pow10 k g2
  refine ⟨by unfold canE; rw [if_pos hok], by unfold canR; rw [Int.toNat_natCast]; simp [hok], fun hc => by rw [hE]; exact can_mean hc, fun hc => ⟨?_, fun h => ?_⟩, fun hc => ?_⟩
  · exact lo_plan hok (by rw [← hn]; exact hs) hc
  · cases hb : nb
    · rfl
    · rw [near_can (hnb.1 hb) (by rw [← hE]; exact h)] at hc; cases hc
  · have hlo : loE k goal s = 0 := by
      unfold loE
      rw [if_pos hok, Int.toNat_natCast, if_pos ⟨by omega, by rw [← hn]; omega⟩, if_pos hc]
    have hx := lossTo_le k goal s k (Nat.le_refl _)
    have hall : allG k ≤ 122880 := by unfold allG; omega
    refine ⟨hlo, _, _, by unfold loX; rw [if_pos hlo], by unfold loY; rw [if_pos hlo], ?_, ?_, ?_, fun hb => ?_⟩
    · exact ratD_pos (by rw [Int.toNat_natCast]; exact allG_pos k)
    · rw [Int.toNat_natCast, Int.toNat_natCast]
      refine Nat.le_trans (ratN_le _ _) (Nat.le_trans hx ?_)
      exact Nat.le_trans (Nat.mul_le_mul g2 hall) (by omega)
    · rw [Int.toNat_natCast]; exact Nat.le_trans (ratD_le _ _) hall
    · rw [Int.toNat_natCast, Int.toNat_natCast]
      exact near_good (hnb.1 hb) (can_mean hc) s (by rw [← hn]; exact hs)
theorem Ints.heap {w w' : World} {A : Option Addr} {n : Nat} {xs : List Int} (h : Ints w A n xs) (e : w'.heap = w.heap) : Ints w' A n xs :=
  ⟨h.1, h.2.1, fun hn => by
    obtain ⟨b, off, e1, hc⟩ := h.2.2 hn
    exact ⟨b, off, e1, fun j hj => by
      have h2 := hc j hj
      unfold World.cell? at h2 ⊢
      rw [e]; exact h2⟩⟩
set_option maxRecDepth 100000 in
set_option maxHeartbeats 4000000 in
/-- dibberlaw05.LuckCover: too long, or no goal -/
theorem f7_no (k x : Int) (A : Option Addr) (n c : Nat) (goal : List Int) (w : World) (hs : Came w A n goal) (h : 1100 < n ∨ goalOk k goal = false) :
    Calls Try.prog 7 #[.int .i64 k, .slice A n c, .int .u16 x] w fun e w' => e = .returned (.bool true) ∧ Below w.heap.size w w' := by
  by_cases h1 : 1100 < n
  · have hn := hs.len
    clear h hs
    go_enter Try.func7, Try.ntmps7
    go_wp2_with fail
    refine (f16_any _).mono ?_
    rintro e w6 ⟨rfl, hb6⟩
    have B6 := Lib.hid hb6
    clear hb6
    go_wp2_with fail
    go_ret
    exact ⟨rfl, B6.out⟩
  · have hok : goalOk k goal = false := h.resolve_left h1
    have h3 : n ≤ 1100 := by omega
    have HS := Lib.hid (hs.2 (by omega))
    have k22 := Lib.hid (f22_any A k n c goal w HS.out)
    have e1 : canE k goal = 2 := by unfold canE; simp [hok]
    have e2 : canR k goal = 0 := by unfold canR; simp [hok]
    rw [e1, e2] at k22
    have k29 := Lib.hid (fun W h => f29_any k A n c goal W h)
    rw [hok] at k29
    clear hs h h1 hok e1 e2
    go_enter Try.func7, Try.ntmps7
    go_wp2_with fail
    refine k22.out.mono ?_
    rintro e w1 ⟨rfl, hb⟩
    have B1 := Lib.hid hb
    have HS1 := Lib.hid (HS.out.below hb)
    clear hb k22
    go_wp2_with fail
    refine (k29.out _ HS1.out).mono ?_
    rintro e w2 ⟨rfl, rfl⟩
    go_wp2_with fail
    refine (f16_any _).mono ?_
    rintro e w6 ⟨rfl, hb6⟩
    have B6 := Lib.hid (below_step B1.out hb6)
    clear hb6
    go_wp2_with fail
    go_ret
    exact ⟨rfl, B6.out⟩
set_option maxRecDepth 100000 in
set_option maxHeartbeats 8000000 in
/-- dibberlaw05.LuckCover: a goal -/
theorem f7_yes (k n c : Nat) (x : Int) (A : Option Addr) (goal : List Int) (w : World) (hs : Came w A n goal) (hcap : n ≤ c) (hx : 0 ≤ x ∧ x ≤ 65535) (hn : n ≤ 1100) (hok : goalOk k goal = true) :
    Calls Try.prog 7 #[.int .i64 (k : Int), .slice A n c, .int .u16 x] w fun e w' => e = .returned (.bool true) ∧ Below w.heap.size w w' := by
  have hS := hs.2 (by omega)
  obtain ⟨m, e, g1, g2, g3, g4⟩ := goalOk_facts hok
  obtain rfl : k = m := by omega
  have hnk : n = 2 ^ k := by rw [← hS.len]; exact g3
  have hn1 : 1 ≤ n := by rw [hnk]; exact Nat.pow_pos (by omega)
  have hn2 : n ≤ 1024 := by rw [hnk]; exact pow10 k g2
  obtain ⟨s, hsn, hsr⟩ := u16_rem x n hx (by omega)
  obtain ⟨nb, hnb⟩ : ∃ nb : Bool, nb = true ↔ Near k goal := by
    rcases Classical.em (Near k goal) with h | h
    · exact ⟨true, fun _ => h, fun _ => rfl⟩
    · exact ⟨false, fun h2 => (Bool.noConfusion h2), fun h2 => absurd h2 h⟩
  obtain ⟨l1, l2, l3, l4, l5⟩ := cover_law hok hnk nb hnb s hsn
  have HG := goal600 g2 g4
  have k22 := Lib.hid (f22_any A k n c goal w hS)
  rw [l1] at k22
  have k29 := Lib.hid (fun W h => f29_any k A n c goal W h)
  rw [hok] at k29
  have k26 := Lib.hid (fun W h => f26_any A k n c goal s W h hcap)
  have k30 := Lib.hid (fun W h => f30_any A k n c goal W h g2 hnk HG nb hnb)
  have HS := Lib.hid hS
  have HA : Hid (∀ q, blkTo goal n 0 (q + 1) = blkTo goal n 0 q + goal.getD q 0) := fun q => by rw [blkTo_succ, Nat.zero_mul, Nat.zero_add]
  have HV := Lib.hid (fun q => blkTo_in (goal := goal) HG n 0 q)
  have Hfin : Hid (blkTo goal n 0 n = blk goal k 0) := by rw [hnk]; rfl
  have HZ : Hid (blkTo goal n 0 0 = 0) := rfl
  have HG1 := Lib.hid HG
  have L2 := Lib.hid l2
  have L3 := Lib.hid l3
  have L4 := Lib.hid l4
  have L5 := Lib.hid l5
  obtain ⟨P, hP⟩ : ∃ P, P = blkTo goal n 0 := ⟨_, rfl⟩
  rw [← hP] at HA HV Hfin HZ
  have hE2 : 30 * k * n ≤ 307200 := Nat.le_trans (Nat.mul_le_mul (Nat.mul_le_mul_left 30 g2) hn2) (by omega)
  obtain ⟨E, hE⟩ : ∃ E, E = 30 * k * n := ⟨_, rfl⟩
  rw [← hE] at L3 L4 hE2
  have e30 : IntKind.i64.wrap ((30 : Int) * (k : Int)) = 30 * (k : Int) := IntWalk.i64_in _ (by omega)
  have eE : IntKind.i64.wrap (30 * (k : Int) * (n : Int)) = (E : Int) := by
    have : 30 * (k : Int) * (n : Int) = (E : Int) := by rw [hE]; simp
    rw [this]; exact IntWalk.i64_in _ (by omega)
  have hx0 := hx.1
  have hx1 := hx.2
  generalize canR k goal = cc at *
  generalize loX k goal s = lx at *
  generalize loY k goal s = ly at *
  generalize loE k goal s = le at *
  clear hs hS hok e g3 g4 hnk hnb l1 l2 l3 l4 l5 HG hP hE hx
  go_enter Try.func7, Try.ntmps7
  go_wp2_with fail
  refine k22.out.mono ?_
  rintro e w1 ⟨rfl, hb⟩
  have B1 := Lib.hid hb
  have HS1 := Lib.hid (HS.out.below hb)
  clear hb k22
  go_wp2_with fail
  refine (k29.out _ HS1.out).mono ?_
  rintro e w2 ⟨rfl, rfl⟩
  go_wp2_with fail
  go_loop [9, 10] (fun v i => ∃ q : Nat, q ≤ n ∧ i = .int .i64 (q : Int) ∧ v = .int .i64 (P q)) (fun _ i => n - (intOf i).toNat)
  case atStart => exact ⟨0, by omega, rfl, by rw [HZ.out]⟩
  case round => as_aux_lemma =>
    obtain ⟨q, hq, rfl, rfl⟩ := hrel
    have hv := HV.out q
    by_cases hlt : q < n
    · obtain ⟨b, off, rfl, hc⟩ := HS1.out.at_ hlt
      have hst := Lib.hid (HA.out q)
      have hx := HG1.out q
      generalize goal.getD q 0 = x at *
      generalize P q = v at *
      go_wp2
      go_round
      case rel => exact ⟨q + 1, by omega, by go_num, by rw [hst.out]⟩
      case measure => simp [intOf]; omega
    · obtain rfl : q = n := by omega
      rw [Hfin.out] at hv ⊢
      generalize blk goal k 0 = S at *
      have K26 := Lib.hid (k26.out w1 HS1.out)
      have hs0 : (0 : Int) ≤ (s : Int) := by omega
      have hsq : (s : Int) < (q : Int) := by omega
      clear hv
      cases hcb : canB k goal
      · obtain ⟨m1, m2⟩ := L4.out hcb
        have m5 := L2.out
        rw [hcb] at m5
        have m6 : cc = 0 := m5
        clear m5 hcb L2 L3 L4 L5
        subst m1 m6
        by_cases hen : (E : Int) ≤ S
        · have m7 := m2 hen
          subst m7
          clear m2
          go_wp2_with fail
          refine K26.out.mono ?_
          rintro e w3 ⟨rfl, hb⟩
          have B3 := Lib.hid (below_step B1.out (below_step hb (below_alloc w3 (.cells #[.int .i64 lx, .int .i64 ly] 26))))
          have K30 := Lib.hid (k30.out _ (HS.out.below B3.out))
          clear hb
          go_wp2_with fail
          refine K30.out.mono ?_
          rintro e w4 ⟨rfl, rfl⟩
          go_wp2_with fail
          refine (f16_any _).mono ?_
          rintro e w6 ⟨rfl, hb6⟩
          have B6 := Lib.hid (below_step B3.out hb6)
          clear hb6
          go_wp2_with fail
          go_ret
          exact ⟨rfl, B6.out⟩
        · clear m2
          go_wp2_with fail
          refine K26.out.mono ?_
          rintro e w3 ⟨rfl, hb⟩
          have B3 := Lib.hid (below_step B1.out (below_step hb (below_alloc w3 (.cells #[.int .i64 lx, .int .i64 ly] 26))))
          clear hb
          go_wp2_with fail
          refine (f16_any _).mono ?_
          rintro e w6 ⟨rfl, hb6⟩
          have B6 := Lib.hid (below_step B3.out hb6)
          clear hb6
          go_wp2_with fail
          go_ret
          exact ⟨rfl, B6.out⟩
      · have hen := L3.out hcb
        obtain ⟨m1, X, Y, m2, m3, m4, m7, m8, m9⟩ := L5.out hcb
        have m5 := L2.out
        rw [hcb] at m5
        have m6 : cc = 1 := m5
        clear m5 hcb L2 L3 L4 L5
        subst m1 m2 m3 m6
        have y1 : (1 : Int) ≤ (Y : Int) := by omega
        have x0 : (0 : Int) ≤ (X : Int) := by omega
        have M9 := Lib.hid m9
        clear m9
        go_wp2_with fail
        refine K26.out.mono ?_
        rintro e w3 ⟨rfl, hb⟩
        obtain ⟨w4, hw4⟩ : ∃ w4, w4 = w3.alloc (.cells #[.int .i64 (X : Int), .int .i64 (Y : Int)] 26) := ⟨_, rfl⟩
        have b3 : Below w1.heap.size w1 w4 := by rw [hw4]; exact below_step hb (below_alloc w3 _)
        have B3 := Lib.hid (below_step B1.out b3)
        have K30 : Hid (∀ W : World, W.heap = w4.heap → Calls Try.prog 30 #[.int .i64 (k : Int), .slice A q c] W fun e w' => e = .returned (.bool nb) ∧ W = w') := fun W h => k30.out W ((HS.out.below B3.out).heap h)
        have p0 : w4.cell? ⟨w3.heap.size, 0, none⟩ = some (.int .i64 (X : Int)) := by rw [hw4]; exact cell_new _ _ _ _
        have p1 : w4.cell? ⟨w3.heap.size, 1, none⟩ = some (.int .i64 (Y : Int)) := by rw [hw4]; exact cell_new _ _ _ _
        have HW4 := Lib.hid hw4
        obtain ⟨b, off, rfl, hcs⟩ := HS1.out.at_ (show s < q by omega)
        have p2 := (b3.cell (lt_of_cell hcs)).trans hcs
        have HGS := HG1.out s
        generalize goal.getD s 0 = g at *
        have hgy : Hid (0 ≤ g * (Y : Int) ∧ g * (Y : Int) ≤ 73728000) := by
          refine ⟨Int.mul_nonneg HGS.1 (by omega), Int.le_trans (Int.mul_le_mul HGS.2 (by omega : (Y : Int) ≤ 122880) (by omega) (by omega)) (by omega)⟩
        clear hb hw4 K26 hcs b3
        go_wp2_with fail
        rw [← HW4.out]
        go_wp2_with fail
        have hfin : Hid (∀ W w' : World, (Below w4.heap.size w4 W) → Below W.heap.size W w' → Below w.heap.size w w') := fun W w' h1 h2 => below_step (below_step B3.out h1) h2
        have hU : IntKind.i64.wrap ((60 : Int) * (X : Int)) = 60 * (X : Int) := IntWalk.i64_in _ (by omega)
        have hgy1 := hgy.out.1
        have hgy2 := hgy.out.2
        have hle : nb = true → 60 * (X : Int) ≤ g * (Y : Int) := M9.out
        generalize hV : g * (Y : Int) = V at *
        have eV : IntKind.i64.wrap V = V := IntWalk.i64_in _ (by omega)
        cases nb
        · clear hle M9
          go_wp2_with fail
          refine wp_region_held_drew (S := fun _ => True) (by kernel_rfl) trivial (fun _ => ?_)
          refine wpAnyH_take (i := 0) (oi := { dst := some 115, op := Op.move (Operand.tmp 0), type := 3, pos := "own.go:202", after := #[], guard := none }) (v := .int .i64 (k : Int)) rfl (by kernel_rfl) (by kernel_rfl) (by kernel_rfl) (fun _ _ _ h => h) (Or.inl ⟨by kernel_rfl, fun _ _ => by kernel_rfl⟩) trivial ?_
          simp only [Act.put, List.setIfInBounds_toArray, List.set_cons_zero, List.set_cons_succ]
          refine wpAnyH_take (i := 1) (oi := { dst := some 116, op := Op.move (Operand.tmp 1), type := 31, pos := "own.go:202", after := #[], guard := none }) (v := .slice (some ⟨b, off, none⟩) q c) rfl (by kernel_rfl) (by kernel_rfl) (by kernel_rfl) (fun _ _ _ h => h) (Or.inl ⟨by kernel_rfl, fun _ _ => by kernel_rfl⟩) trivial ?_
          simp only [Act.put, List.setIfInBounds_toArray, List.set_cons_zero, List.set_cons_succ]
          refine wpAnyH_ready (rs := [2]) (by kernel_rfl) (by simp) ?_
          refine AllReadyH.cons (o := { dst := some 117, op := Op.call { callee := Callee.value (Operand.func 30), args := #[Operand.tmp 115, Operand.tmp 116], argTypes := #[3, 31] }, type := 4, pos := "own.go:202", after := #[{ on := 0, ground := Ground.data }, { on := 1, ground := Ground.data }], guard := none }) rfl (fun K hK => ?_) AllReadyH.nil
          go_simp
          refine (K30.out _ (by rfl)).mono ?_
          rintro e w5 ⟨rfl, rfl⟩
          refine hK.out _ _ trivial (fun _ => ?_)
          clear hK K
          refine wpAnyH_take (i := 3) (oi := { dst := some 118, op := Op.unOp UnOp.not 4 (Operand.tmp 117), type := 4, pos := "own.go:202", after := #[{ on := 2, ground := Ground.data }], guard := none }) (v := .bool true) rfl (by kernel_rfl) (by kernel_rfl) (by kernel_rfl) (fun _ _ _ h => h) (Or.inl ⟨by kernel_rfl, fun _ _ => by kernel_rfl⟩) trivial ?_
          simp only [Act.put, List.setIfInBounds_toArray, List.set_cons_zero, List.set_cons_succ]
          refine wpAnyH_take (i := 4) (oi := { dst := some 119, op := Op.move (Operand.tmp 118), type := 4, pos := "own.go:202", after := #[{ on := 3, ground := Ground.data }, { on := 2, ground := Ground.chain }], guard := none }) (v := .bool true) rfl (by kernel_rfl) (by kernel_rfl) (by kernel_rfl) (fun _ _ _ h => h) (Or.inl ⟨by kernel_rfl, fun _ _ => by kernel_rfl⟩) trivial ?_
          simp only [Act.put, List.setIfInBounds_toArray, List.set_cons_zero, List.set_cons_succ]
          refine wpAnyH_take (i := 5) (oi := { dst := some 120, op := Op.fieldAddr 26 (Operand.tmp 13) 0, type := 0, pos := "own.go:202", after := #[{ on := 4, ground := Ground.guard }], guard := some (4, false) }) (v := undef) rfl (by kernel_rfl) (by kernel_rfl) (by kernel_rfl) (fun _ _ _ h => h) (Or.inr ⟨by kernel_rfl, rfl⟩) trivial ?_
          simp only [Act.put, List.setIfInBounds_toArray, List.set_cons_zero, List.set_cons_succ]
          refine wpAnyH_take (i := 6) (oi := { dst := some 121, op := Op.load 3 (Operand.tmp 120), type := 3, pos := "own.go:202", after := #[{ on := 5, ground := Ground.data }, { on := 4, ground := Ground.guard }], guard := some (4, false) }) (v := undef) rfl (by kernel_rfl) (by kernel_rfl) (by kernel_rfl) (fun _ _ _ h => h) (Or.inr ⟨by kernel_rfl, rfl⟩) trivial ?_
          simp only [Act.put, List.setIfInBounds_toArray, List.set_cons_zero, List.set_cons_succ]
          refine wpAnyH_take (i := 7) (oi := { dst := some 122, op := Op.binOp BinOp.mul 3 (Operand.const (Value.int IntKind.i64 60)) (Operand.tmp 121) 3, type := 3, pos := "own.go:202", after := #[{ on := 6, ground := Ground.data }, { on := 4, ground := Ground.guard }], guard := some (4, false) }) (v := undef) rfl (by kernel_rfl) (by kernel_rfl) (by kernel_rfl) (fun _ _ _ h => h) (Or.inr ⟨by kernel_rfl, rfl⟩) trivial ?_
          simp only [Act.put, List.setIfInBounds_toArray, List.set_cons_zero, List.set_cons_succ]
          refine wpAnyH_take (i := 8) (oi := { dst := some 123, op := Op.move (Operand.tmp 1), type := 31, pos := "own.go:202", after := #[{ on := 4, ground := Ground.guard }], guard := some (4, false) }) (v := undef) rfl (by kernel_rfl) (by kernel_rfl) (by kernel_rfl) (fun _ _ _ h => h) (Or.inr ⟨by kernel_rfl, rfl⟩) trivial ?_
          simp only [Act.put, List.setIfInBounds_toArray, List.set_cons_zero, List.set_cons_succ]
          refine wpAnyH_take (i := 9) (oi := { dst := some 124, op := Op.move (Operand.tmp 12), type := 3, pos := "own.go:202", after := #[{ on := 4, ground := Ground.guard }], guard := some (4, false) }) (v := undef) rfl (by kernel_rfl) (by kernel_rfl) (by kernel_rfl) (fun _ _ _ h => h) (Or.inr ⟨by kernel_rfl, rfl⟩) trivial ?_
          simp only [Act.put, List.setIfInBounds_toArray, List.set_cons_zero, List.set_cons_succ]
          refine wpAnyH_take (i := 10) (oi := { dst := some 125, op := Op.indexAddr 31 (Operand.tmp 123) (Operand.tmp 124), type := 0, pos := "own.go:202", after := #[{ on := 8, ground := Ground.data }, { on := 9, ground := Ground.data }, { on := 4, ground := Ground.guard }], guard := some (4, false) }) (v := undef) rfl (by kernel_rfl) (by kernel_rfl) (by kernel_rfl) (fun _ _ _ h => h) (Or.inr ⟨by kernel_rfl, rfl⟩) trivial ?_
          simp only [Act.put, List.setIfInBounds_toArray, List.set_cons_zero, List.set_cons_succ]
          refine wpAnyH_take (i := 11) (oi := { dst := some 126, op := Op.load 3 (Operand.tmp 125), type := 3, pos := "own.go:202", after := #[{ on := 10, ground := Ground.data }, { on := 4, ground := Ground.guard }], guard := some (4, false) }) (v := undef) rfl (by kernel_rfl) (by kernel_rfl) (by kernel_rfl) (fun _ _ _ h => h) (Or.inr ⟨by kernel_rfl, rfl⟩) trivial ?_
          simp only [Act.put, List.setIfInBounds_toArray, List.set_cons_zero, List.set_cons_succ]
          refine wpAnyH_take (i := 12) (oi := { dst := some 127, op := Op.fieldAddr 26 (Operand.tmp 13) 1, type := 0, pos := "own.go:202", after := #[{ on := 4, ground := Ground.guard }], guard := some (4, false) }) (v := undef) rfl (by kernel_rfl) (by kernel_rfl) (by kernel_rfl) (fun _ _ _ h => h) (Or.inr ⟨by kernel_rfl, rfl⟩) trivial ?_
          simp only [Act.put, List.setIfInBounds_toArray, List.set_cons_zero, List.set_cons_succ]
          refine wpAnyH_take (i := 13) (oi := { dst := some 128, op := Op.load 3 (Operand.tmp 127), type := 3, pos := "own.go:202", after := #[{ on := 12, ground := Ground.data }, { on := 4, ground := Ground.guard }], guard := some (4, false) }) (v := undef) rfl (by kernel_rfl) (by kernel_rfl) (by kernel_rfl) (fun _ _ _ h => h) (Or.inr ⟨by kernel_rfl, rfl⟩) trivial ?_
          simp only [Act.put, List.setIfInBounds_toArray, List.set_cons_zero, List.set_cons_succ]
          refine wpAnyH_take (i := 14) (oi := { dst := some 129, op := Op.binOp BinOp.mul 3 (Operand.tmp 126) (Operand.tmp 128) 3, type := 3, pos := "own.go:202", after := #[{ on := 11, ground := Ground.data }, { on := 13, ground := Ground.data }, { on := 4, ground := Ground.guard }], guard := some (4, false) }) (v := undef) rfl (by kernel_rfl) (by kernel_rfl) (by kernel_rfl) (fun _ _ _ h => h) (Or.inr ⟨by kernel_rfl, rfl⟩) trivial ?_
          simp only [Act.put, List.setIfInBounds_toArray, List.set_cons_zero, List.set_cons_succ]
          refine wpAnyH_take (i := 15) (oi := { dst := some 130, op := Op.binOp BinOp.leq 3 (Operand.tmp 122) (Operand.tmp 129) 3, type := 4, pos := "own.go:202", after := #[{ on := 7, ground := Ground.data }, { on := 14, ground := Ground.data }, { on := 4, ground := Ground.guard }], guard := some (4, false) }) (v := undef) rfl (by kernel_rfl) (by kernel_rfl) (by kernel_rfl) (fun _ _ _ h => h) (Or.inr ⟨by kernel_rfl, rfl⟩) trivial ?_
          simp only [Act.put, List.setIfInBounds_toArray, List.set_cons_zero, List.set_cons_succ]
          refine wpAnyH_take (i := 16) (oi := { dst := some 131, op := Op.pick (Operand.tmp 119) (Operand.const (Value.bool true)) (Operand.tmp 130), type := 4, pos := "own.go:202", after := #[{ on := 4, ground := Ground.data }, { on := 15, ground := Ground.data }], guard := none }) (v := .bool true) rfl (by kernel_rfl) (by kernel_rfl) (by kernel_rfl) (fun _ _ _ h => h) (Or.inl ⟨by kernel_rfl, fun _ _ => by kernel_rfl⟩) trivial ?_
          simp only [Act.put, List.setIfInBounds_toArray, List.set_cons_zero, List.set_cons_succ]
          refine wpAnyH_take (i := 17) (oi := { dst := some 132, op := Op.move (Operand.tmp 131), type := 4, pos := "own.go:202", after := #[{ on := 16, ground := Ground.data }, { on := 4, ground := Ground.chain }], guard := none }) (v := .bool true) rfl (by kernel_rfl) (by kernel_rfl) (by kernel_rfl) (fun _ _ _ h => h) (Or.inl ⟨by kernel_rfl, fun _ _ => by kernel_rfl⟩) trivial ?_
          simp only [Act.put, List.setIfInBounds_toArray, List.set_cons_zero, List.set_cons_succ]
          refine wpAnyH_ready (rs := [18]) (by kernel_rfl) (by simp) ?_
          refine AllReadyH.cons (o := { dst := some 133, op := Op.call { callee := Callee.value (Operand.func 16), args := #[], argTypes := #[] }, type := 4, pos := "own.go:202", after := #[{ on := 17, ground := Ground.chain }, { on := 17, ground := Ground.guard }], guard := some (17, true) }) rfl (fun K hK => ?_) AllReadyH.nil
          go_simp
          refine (f16_any _).mono ?_
          rintro e w8 ⟨rfl, hb8⟩
          have B8 : Hid (Below w.heap.size w w8) := hfin.out _ _ ((Below.refl _ _).drew) hb8
          clear hb8
          refine hK.out _ _ trivial (fun _ => ?_)
          clear hK K
          refine wpAnyH_take (i := 19) (oi := { dst := some 134, op := Op.pick (Operand.tmp 132) (Operand.tmp 133) (Operand.const (Value.bool false)), type := 4, pos := "own.go:202", after := #[{ on := 17, ground := Ground.data }, { on := 18, ground := Ground.data }], guard := none }) (v := .bool true) rfl (by kernel_rfl) (by kernel_rfl) (by kernel_rfl) (fun _ _ _ h => h) (Or.inl ⟨by kernel_rfl, fun _ _ => by kernel_rfl⟩) trivial ?_
          simp only [Act.put, List.setIfInBounds_toArray, List.set_cons_zero, List.set_cons_succ]
          refine wpAnyH_take (i := 20) (oi := { dst := some 6, op := Op.assign (Operand.tmp 134), type := 4, pos := "own.go:202", after := #[{ on := 19, ground := Ground.data }, { on := 18, ground := Ground.chain }, { on := 0, ground := Ground.phase }, { on := 1, ground := Ground.phase }, { on := 2, ground := Ground.phase }, { on := 3, ground := Ground.phase }, { on := 4, ground := Ground.phase }, { on := 5, ground := Ground.phase }, { on := 6, ground := Ground.phase }, { on := 7, ground := Ground.phase }, { on := 8, ground := Ground.phase }, { on := 9, ground := Ground.phase }, { on := 10, ground := Ground.phase }, { on := 11, ground := Ground.phase }, { on := 12, ground := Ground.phase }, { on := 13, ground := Ground.phase }, { on := 14, ground := Ground.phase }, { on := 15, ground := Ground.phase }, { on := 16, ground := Ground.phase }, { on := 17, ground := Ground.phase }, { on := 18, ground := Ground.phase }, { on := 19, ground := Ground.phase }], guard := none }) (v := .bool true) rfl (by kernel_rfl) (by kernel_rfl) (by kernel_rfl) (fun _ _ _ h => h) (Or.inl ⟨by kernel_rfl, fun _ _ => by kernel_rfl⟩) trivial ?_
          simp only [Act.put, List.setIfInBounds_toArray, List.set_cons_zero, List.set_cons_succ]
          refine wpAnyH_done (by kernel_rfl) ?_ _
          go_wp2
          exact bodyPost_ret (v := .bool true) (by simp [results, Try.results7, go_sem]) rfl ⟨rfl, B8.out⟩
        · have hle := hle rfl
          clear M9
          have R6 : Hid (∀ W w' : World, W.heap = w4.heap → Below W.heap.size W w' → w'.cell? ⟨w3.heap.size, 0, none⟩ = some (.int .i64 (X : Int)) ∧ w'.cell? ⟨w3.heap.size, 1, none⟩ = some (.int .i64 (Y : Int)) ∧ w'.cell? ⟨b, off + s, none⟩ = some (.int .i64 g)) := fun W w' h hb => by
            have e : ∀ p v, w4.cell? p = some v → w'.cell? p = some v := fun p v hc => by
              have h1 : W.cell? p = some v := by unfold World.cell? at hc ⊢; rw [h]; exact hc
              exact (hb.cell (lt_of_cell h1)).trans h1
            exact ⟨e _ _ p0, e _ _ p1, e _ _ p2⟩
          go_wp2_with fail
          go_region_held3 (fun w' => w'.cell? ⟨w3.heap.size, 0, none⟩ = some (.int .i64 (X : Int)) ∧ w'.cell? ⟨w3.heap.size, 1, none⟩ = some (.int .i64 (Y : Int)) ∧ w'.cell? ⟨b, off + s, none⟩ = some (.int .i64 g))
            (first | go_keep | exact R6.out _ _ (by rfl) hb8)
            (first | (go_at_call 30; refine (K30.out _ (by rfl)).mono ?_; rintro e w5 ⟨rfl, rfl⟩) | (go_at_call 16; refine (f16_any _).mono ?_; rintro e w8 ⟨rfl, hb8⟩; have B8 : Hid (Below w.heap.size w w8) := (by first | exact hfin.out _ _ (Below.refl _ _) hb8 | exact hfin.out _ _ ((Below.refl _ _).drew) hb8)))
          all_goals (try go_wp2)
          all_goals exact bodyPost_ret (v := .bool true) (by simp [results, Try.results7, go_sem]) rfl ⟨rfl, B8.out⟩
/-- dibberlaw05.LuckCover -/
theorem f7_any (k x : Int) (A : Option Addr) (n c : Nat) (goal : List Int) (w : World) (hs : Came w A n goal) (hcap : n ≤ c) (hx : 0 ≤ x ∧ x ≤ 65535) :
    Calls Try.prog 7 #[.int .i64 k, .slice A n c, .int .u16 x] w fun e w' => e = .returned (.bool true) ∧ Below w.heap.size w w' := by
  by_cases h : 1100 < n
  · exact f7_no k x A n c goal w hs (.inl h)
  · cases hok : goalOk k goal
    · exact f7_no k x A n c goal w hs (.inr hok)
    · obtain ⟨m, rfl, _⟩ := goalOk_facts hok
      exact f7_yes m n c x A goal w hs hcap hx (by omega) hok
end Go.Proofs.Ytfaenbaaadjbbaa
