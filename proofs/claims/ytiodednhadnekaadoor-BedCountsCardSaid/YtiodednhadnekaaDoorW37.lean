/- Walks: the specification's free and can. -/
import Derived.Test.YtiodednhadnekaaDoorW36
namespace Go.Proofs.YtiodednhadnekaaDoor
open Go.RowKit Go.Deep
attribute [local go_sem ↓] Go.wp_at_zero Go.wp_at_succ

set_option maxRecDepth 100000 in
set_option maxHeartbeats 4000000 in
/-- dibberref01.free -/
theorem f52_any (A : Option Addr) (n cb r c x : Nat) (b : List (List Int)) (w : World) (hs : Beds w A n cb b) (hsq : sqShape n b) (hr : r < n) (hc : c < n) :
    Calls Tryd.prog 52 #[.slice A n cb, .int .i64 (r : Int), .int .i64 (c : Int), .int .i64 (x : Int)] w fun e w' => e = .returned (.bool (freeB n b r c x)) ∧ w = w' := by
  have HS := Lib.hid hs
  have hsm := hs.small
  have HROW : Hid (∀ i, i < n → (b.getD i []).length = n) := hsq.2
  have HYES : Hid ((∀ j, j < n → gAt b r j ≠ (x : Int) ∧ gAt b j c ≠ (x : Int)) → freeB n b r c x = true) := fun h => freeB_iff.2 h
  have HNO : Hid (∀ i, i < n → (gAt b r i = (x : Int) ∨ gAt b i c = (x : Int)) → freeB n b r c x = false) := fun i hi h => by
    cases h2 : freeB n b r c x
    · rfl
    · have h3 := (freeB_iff.1 h2) i hi
      rcases h with h | h
      · exact absurd h h3.1
      · exact absurd h h3.2
  have r0 : (0 : Int) ≤ (r : Int) := by omega
  have rn : (r : Int) < (n : Int) := by omega
  have c0 : (0 : Int) ≤ (c : Int) := by omega
  have cn : (c : Int) < (n : Int) := by omega
  clear hs hsq
  go_enter Tryd.func52, Tryd.ntmps52
  go_wp2
  go_loop [9] (fun i => ∃ k : Nat, k ≤ n ∧ i = .int .i64 (k : Int) ∧ Hid (∀ j, j < k → gAt b r j ≠ (x : Int) ∧ gAt b j c ≠ (x : Int))) (fun i => n - (intOf i).toNat)
  case atStart => exact ⟨0, by omega, rfl, fun j hj => absurd hj (by omega)⟩
  case round => as_aux_lemma =>
    obtain ⟨k, hk, rfl, hin⟩ := hrel
    by_cases hkn : k < n
    · obtain ⟨g, o, rfl, B2, d2, hc2, _, _, hi2⟩ := HS.out.at_ hr
      obtain ⟨g3, o3, eB3, B3, d3, hc3, _, _, hi3⟩ := HS.out.at_ hkn
      injection eB3 with eB3
      injection eB3 with e1 e2
      subst e1 e2
      rw [HROW.out r hr] at hc2 hi2
      rw [HROW.out k hkn] at hc3 hi3
      obtain ⟨g4, o4, rfl, hc4⟩ := hi2.at_ hkn
      obtain ⟨g5, o5, rfl, hc5⟩ := hi3.at_ hc
      have hg4 : (b.getD r []).getD k 0 = gAt b r k := rfl
      have hg5 : (b.getD k []).getD c 0 = gAt b k c := rfl
      rw [hg4] at hc4
      rw [hg5] at hc5
      have HN := Lib.hid (HNO.out k hkn)
      have HNX : Hid (gAt b r k ≠ (x : Int) → gAt b k c ≠ (x : Int) → ∀ j, j < k + 1 → gAt b r j ≠ (x : Int) ∧ gAt b j c ≠ (x : Int)) := Lib.hid fun h1 h2 j hj => by
        rcases Nat.lt_or_ge j k with h | h
        · exact hin.out j h
        · obtain rfl : j = k := by omega
          exact ⟨h1, h2⟩
      generalize gAt b r k = u at *
      generalize gAt b k c = v at *
      have k0 : (0 : Int) ≤ (k : Int) := by omega
      have kn : (k : Int) < (n : Int) := by omega
      clear hi2 hi3 hin
      by_cases h1 : u = (x : Int)
      · have hq : (u == (x : Int)) = true := by simpa using h1
        have HE := Lib.hid (HN.out (.inl h1))
        clear h1 HN HNX
        go_wp2
        go_ret
        exact ⟨ret_bool HE.out.symm, rfl⟩
      · have hq : (u == (x : Int)) = false := by simpa using h1
        by_cases h2 : v = (x : Int)
        · have hq2 : (v == (x : Int)) = true := by simpa using h2
          have HE := Lib.hid (HN.out (.inr h2))
          clear h1 h2 HN HNX
          go_wp2
          go_ret
          exact ⟨ret_bool HE.out.symm, rfl⟩
        · have hq2 : (v == (x : Int)) = false := by simpa using h2
          have HE := Lib.hid (HNX.out h1 h2)
          clear h1 h2 HN HNX
          go_wp2
          go_round
          case rel => exact ⟨k + 1, by omega, by go_num, HE.out⟩
          case measure => simp [intOf]; omega
    · obtain rfl : k = n := by omega
      have HE := Lib.hid (HYES.out hin.out)
      clear hin
      go_wp2
      go_ret
      exact ⟨ret_bool HE.out.symm, rfl⟩
def NarI (n : Nat) (b : List (List Int)) (i j : Nat) (R C : Int) (L : Nat) : Prop :=
  (L = n + 1 ∧ R = -1 ∧ C = -1 ∧ ∀ r c, r < n → c < n → (r < i ∨ (r = i ∧ c < j)) → 0 ≤ gAt b r c) ∨ (L ≤ n ∧ ∃ r c : Nat, R = (r : Int) ∧ C = (c : Int) ∧ r < n ∧ c < n ∧ gAt b r c < 0)
theorem NarI.row {n : Nat} {b : List (List Int)} {i : Nat} {R C : Int} {L : Nat} (h : NarI n b i n R C L) : NarI n b (i + 1) 0 R C L := by
  rcases h with ⟨h1, h2, h3, h4⟩ | h
  · exact .inl ⟨h1, h2, h3, fun r c hr hc h => h4 r c hr hc (by omega)⟩
  · exact .inr h
theorem NarI.skip {n : Nat} {b : List (List Int)} {i j : Nat} {R C : Int} {L : Nat} (h : NarI n b i j R C L) (h0 : 0 ≤ gAt b i j) : NarI n b i (j + 1) R C L := by
  rcases h with ⟨h1, h2, h3, h4⟩ | h
  · refine .inl ⟨h1, h2, h3, fun r c hr hc h => ?_⟩
    by_cases e : r = i ∧ c = j
    · rw [e.1, e.2]; exact h0
    · exact h4 r c hr hc (by omega)
  · exact .inr h
theorem NarI.keep {n : Nat} {b : List (List Int)} {i j : Nat} {R C : Int} {L M : Nat} (h : NarI n b i j R C L) (hM : M ≤ n) (hl : ¬ M < L) : NarI n b i (j + 1) R C L := by
  rcases h with ⟨h1, _⟩ | h
  · omega
  · exact .inr h
/-- What can is shown to do. -/
def CanG (gO : Nat) (gr cr : Nat → Nat) (n cO : Nat) (b : List (List Int)) : Prop := ∀ w : World, GridM w gO gr cr n b → Calls Tryd.prog 51 #[.slice (some ⟨gO, 0, none⟩) n cO] w fun e w' => e = .returned (.bool (canB n b)) ∧ Kept (fun _ i => OwnG n gr i) w w' ∧ GridM w' gO gr cr n b
set_option maxRecDepth 100000 in
set_option maxHeartbeats 8000000 in
theorem f51_step (gO : Nat) (gr cr : Nat → Nat) (n cO : Nat) (hn : n ≤ 7) (hcO : n ≤ cO) (b : List (List Int)) (hb : IsBed n b) (ih : ∀ r c x, r < n → c < n → gAt b r c < 0 → x ∈ crops n b r c → CanG gO gr cr n cO (gset b r c (x : Nat))) : CanG gO gr cr n cO b := by
  intro w hg
  have HG := Lib.hid hg
  have HB := Lib.hid hb
  have IH := Lib.hid ih
  have HROW : Hid (∀ i, i < n → (b.getD i []).length = n) := hb.shape.2
  have HBEDS := Lib.hid (hg.beds hb.shape hn hcO)
  have K52 : Hid (∀ r c x, r < n → c < n → Calls Tryd.prog 52 #[.slice (some ⟨gO, 0, none⟩) n cO, .int .i64 ((r : Nat) : Int), .int .i64 ((c : Nat) : Int), .int .i64 ((x : Nat) : Int)] w fun e w' => e = .returned (.bool (freeB n b r c x)) ∧ w = w') := Lib.hid fun r c x hr hc => f52_any _ n cO r c x b w HBEDS.out hb.shape hr hc
  clear hg hb ih
  go_enter Tryd.func51, Tryd.ntmps51
  go_wp2
  go_loop [7, 4, 5, 6] (fun i R C L => ∃ (i' L' : Nat) (R' C' : Int), i' ≤ n ∧ L' ≤ n + 1 ∧ i = .int .i64 (i' : Int) ∧ R = .int .i64 R' ∧ C = .int .i64 C' ∧ L = .int .i64 (L' : Int) ∧ Hid (NarI n b i' 0 R' C' L')) (fun i _ _ _ => n - (intOf i).toNat)
  case atStart => exact ⟨0, n + 1, -1, -1, by omega, by omega, rfl, rfl, rfl, by go_num, .inl ⟨rfl, rfl, rfl, fun r c _ _ h => by omega⟩⟩
  case round => as_aux_lemma =>
    obtain ⟨i, L, R, C, hi, hL, rfl, rfl, rfl, rfl, hst⟩ := hrel
    by_cases hin : i < n
    · have i0 : (0 : Int) ≤ (i : Int) := by omega
      have inn : (i : Int) < (n : Int) := by omega
      go_wp2
      go_loop [8, 4, 5, 6] (fun j R C L => ∃ (j' L' : Nat) (R' C' : Int), j' ≤ n ∧ L' ≤ n + 1 ∧ j = .int .i64 (j' : Int) ∧ R = .int .i64 R' ∧ C = .int .i64 C' ∧ L = .int .i64 (L' : Int) ∧ Hid (NarI n b i j' R' C' L')) (fun j _ _ _ => n - (intOf j).toNat)
      case atStart => exact ⟨0, L, R, C, by omega, hL, rfl, rfl, rfl, rfl, hst⟩
      case round => as_aux_lemma =>
        obtain ⟨j, L, R, C, hj, hL, rfl, rfl, rfl, rfl, hst⟩ := hrel
        by_cases hjn : j < n
        · have j0 : (0 : Int) ≤ (j : Int) := by omega
          have jn : (j : Int) < (n : Int) := by omega
          have c1 := HG.out.hdr i hin
          have c2 := HG.out.val i j hin hjn
          have HK := Lib.hid (fun x => K52.out i j x hin hjn)
          by_cases h0 : 0 ≤ gAt b i j
          · have HE := Lib.hid (hst.out.skip h0)
            generalize gAt b i j = u at *
            clear hst
            go_wp2
            go_round
            case rel => exact ⟨j + 1, L, R, C, by omega, hL, by go_num, rfl, rfl, rfl, HE.out⟩
            case measure => simp [intOf]; omega
          · have HHIT : Hid (∀ M : Nat, M ≤ n → NarI n b i (j + 1) (i : Int) (j : Int) M) := Lib.hid fun M hM => .inr ⟨hM, i, j, rfl, rfl, hin, hjn, by omega⟩
            have HKEEP : Hid (∀ M : Nat, M ≤ n → ¬ M < L → NarI n b i (j + 1) R C L) := Lib.hid fun M hM h => hst.out.keep hM h
            generalize gAt b i j = u at *
            clear hst
            go_wp2
            go_loop [10, 9] (fun x m => ∃ (x' m' : Nat), x' ≤ n ∧ m' ≤ x' ∧ x = .int .i64 (x' : Int) ∧ m = .int .i64 (m' : Int)) (fun x _ => n - (intOf x).toNat)
            case atStart => exact ⟨0, 0, by omega, by omega, rfl, rfl⟩
            case round => as_aux_lemma =>
              obtain ⟨x, m, hx, hm, rfl, rfl⟩ := hrel
              by_cases hxn : x < n
              · have x0 : (0 : Int) ≤ (x : Int) := by omega
                have xn : (x : Int) < (n : Int) := by omega
                have K := HK.out x
                cases hfr : freeB n b i j x
                · rw [hfr] at K
                  have K := Lib.hid K
                  clear hfr
                  go_wp2_with fail
                  refine K.out.mono ?_
                  rintro e w' ⟨rfl, rfl⟩
                  go_wp2
                  go_round
                  case rel => exact ⟨x + 1, m, by omega, by omega, by go_num, rfl⟩
                  case measure => simp [intOf]; omega
                · rw [hfr] at K
                  have K := Lib.hid K
                  clear hfr
                  go_wp2_with fail
                  refine K.out.mono ?_
                  rintro e w' ⟨rfl, rfl⟩
                  go_wp2
                  go_round
                  case rel => exact ⟨x + 1, m + 1, by omega, by omega, by go_num, by go_num⟩
                  case measure => simp [intOf]; omega
              · obtain rfl : x = n := by omega
                by_cases hml : m < L
                · have HE := Lib.hid (HHIT.out m (by omega))
                  go_wp2
                  go_round
                  case rel => exact ⟨j + 1, m, (i : Int), (j : Int), by omega, by omega, by go_num, rfl, rfl, rfl, HE.out⟩
                  case measure => simp [intOf]; omega
                · have HE := Lib.hid (HKEEP.out m (by omega) hml)
                  go_wp2
                  go_round
                  case rel => exact ⟨j + 1, L, R, C, by omega, hL, by go_num, rfl, rfl, rfl, HE.out⟩
                  case measure => simp [intOf]; omega
        · obtain rfl : j = n := by omega
          have HE := Lib.hid hst.out.row
          clear hst
          go_wp2
          go_round
          case rel => exact ⟨i + 1, L, R, C, by omega, hL, by go_num, rfl, rfl, rfl, HE.out⟩
          case measure => simp [intOf]; omega
    · obtain rfl : i = n := by omega
      rcases hst.out with ⟨_, rfl, rfl, hall⟩ | ⟨_, r, c, rfl, rfl, hr, hc, h0⟩
      · have HE : Hid (canB i b = true) := Lib.hid (can_full HB.out fun r c hr hc => hall r c hr hc (.inl hr))
        clear hall hst
        go_wp2
        go_ret
        exact ⟨ret_bool HE.out.symm, Kept.refl _ _, HG.out⟩
      · have HH0 := Lib.hid h0
        have r0 : (0 : Int) ≤ (r : Int) := by omega
        have rn : (r : Int) < (i : Int) := by omega
        have c0 : (0 : Int) ≤ (c : Int) := by omega
        have cn : (c : Int) < (i : Int) := by omega
        have HBACK : Hid (∀ x : Int, gset (gset b r c x) r c (-1) = b) := Lib.hid fun x => by
          have h1 := (HB.out.lo r c hr hc).1
          have e : gAt b r c = -1 := by have := HH0.out; omega
          rw [gset_gset HB.out.shape hr hc, ← e, gset_same HB.out.shape hr hc]
        clear hst K52 HBEDS h0
        go_wp2
        go_loopw [11] (fun x wr => ∃ x' : Nat, x' ≤ i ∧ x = .int .i64 (x' : Int) ∧ Hid (∀ y, y < x' → y ∈ crops i b r c → canB i (gset b r c (y : Nat)) = false) ∧ Kept (fun _ j => OwnG i gr j) w wr ∧ GridM wr gO gr cr i b) (fun x _ => i - (intOf x).toNat)
        case atStart => exact ⟨0, by omega, rfl, fun y hy => absurd hy (by omega), Kept.refl _ _, HG.out⟩
        case round => as_aux_lemma =>
          obtain ⟨x, hx, rfl, hno, hk, hg⟩ := hrel
          have HK := Lib.hid hk
          have HGr := Lib.hid hg
          by_cases hxn : x < i
          · have K52 := f52_any _ i cO r c x b wr (hg.beds HB.out.shape hn hcO) HB.out.shape hr hc
            have x0 : (0 : Int) ≤ (x : Int) := by omega
            have xn : (x : Int) < (i : Int) := by omega
            cases hfr : freeB i b r c x
            · have HN : Hid (∀ y, y < x + 1 → y ∈ crops i b r c → canB i (gset b r c (y : Nat)) = false) := Lib.hid fun y hy hm => by
                rcases Nat.lt_or_ge y x with h | h
                · exact hno.out y h hm
                · obtain rfl : y = x := by omega
                  have := freeB_iff.2 (mem_crops.1 hm).2
                  rw [hfr] at this; cases this
              rw [hfr] at K52
              have K52 := Lib.hid K52
              clear hno hk hg hfr
              go_wp2_with fail
              refine K52.out.mono ?_
              rintro e w' ⟨rfl, rfl⟩
              go_wp2
              go_roundw
              case rel => exact ⟨x + 1, by omega, by go_num, HN.out, HK.out, HGr.out⟩
              case measure => simp [intOf]; omega
            · have hmem : x ∈ crops i b r c := mem_crops.2 ⟨hxn, freeB_iff.1 hfr⟩
              have HN : Hid (canB i (gset b r c (x : Nat)) = false → ∀ y, y < x + 1 → y ∈ crops i b r c → canB i (gset b r c (y : Nat)) = false) := Lib.hid fun hf y hy hm => by
                rcases Nat.lt_or_ge y x with h | h
                · exact hno.out y h hm
                · obtain rfl : y = x := by omega
                  exact hf
              have HHIT : Hid (canB i (gset b r c (x : Nat)) = true → canB i b = true) := Lib.hid fun h => can_hit HB.out hr hc HH0.out hxn h
              rw [hfr] at K52
              have K52 := Lib.hid K52
              have c1 := hg.hdr r hr
              have c2 := hg.val r c hr hc
              have f2 := hg.frozen hr c
              have G2 := Lib.hid (hg.set_ HB.out.shape hr hc (x : Int))
              have KK2 := Lib.hid (GridM.turned hk hr c (.int .i64 (x : Int)))
              have K51 := Lib.hid (IH.out r c x hr hc HH0.out hmem _ G2.out)
              have HSH := Lib.hid (gset_shape HB.out.shape r c (x : Int))
              clear hno hk hg hfr hmem
              go_wp2_with fail
              refine K52.out.mono ?_
              rintro e w' ⟨rfl, rfl⟩
              go_wp2_with fail
              refine K51.out.mono ?_
              rintro e w3 ⟨rfl, hk3, hg3⟩
              have c3 := hg3.hdr r hr
              have c4 := hg3.val r c hr hc
              have f4 := hg3.frozen hr c
              have G4 : Hid (GridM (w3.setCell ⟨gr r, c, none⟩ (.int .i64 (-1))) gO gr cr i b) := Lib.hid (by
                have h := hg3.set_ HSH.out hr hc (-1)
                rw [HBACK.out] at h
                exact h)
              have K4 := Lib.hid (GridM.turned (KK2.out.trans hk3) hr c (.int .i64 (-1)))
              cases hcan : canB i (gset b r c (x : Nat))
              · have HE := Lib.hid (HN.out hcan)
                clear hk3 hg3 hcan HN HHIT
                go_wp2
                go_roundw
                case rel => exact ⟨x + 1, by omega, by go_num, HE.out, K4.out, G4.out⟩
                case measure => simp [intOf]; omega
              · have HE := Lib.hid (HHIT.out hcan)
                clear hk3 hg3 hcan HN HHIT
                go_wp2
                go_ret
                exact ⟨ret_bool HE.out.symm, K4.out, G4.out⟩
          · obtain rfl : x = i := by omega
            have HE : Hid (canB x b = false) := Lib.hid (can_miss HB.out hr hc HH0.out fun y hy => hno.out y (mem_crops.1 hy).1 hy)
            clear hno hk hg
            go_wp2
            go_ret
            exact ⟨ret_bool HE.out.symm, HK.out, HGr.out⟩
/-- dibberref01.can -/
theorem f51_any (gO : Nat) (gr cr : Nat → Nat) (n cO : Nat) (hn : n ≤ 7) (hcO : n ≤ cO) (b : List (List Int)) (hb : IsBed n b) : CanG gO gr cr n cO b := by
  have key : ∀ k b, empt n b < k → IsBed n b → CanG gO gr cr n cO b := by
    intro k
    induction k with
    | zero => intro b h; omega
    | succ k ih =>
      intro b hk hb
      refine f51_step gO gr cr n cO hn hcO b hb fun r c x hr hc h0 hx => ih _ ?_ ?_
      · have := empt_put hb.shape hr hc h0 (x := (x : Int)) (by omega)
        omega
      · obtain ⟨h1, h2⟩ := mem_crops.1 hx
        exact hb.put hr hc (by omega) (by omega) h2
  exact key _ b (Nat.lt_succ_self _) hb
end Go.Proofs.YtiodednhadnekaaDoor
