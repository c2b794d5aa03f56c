/- Walks: allowed. -/
import Derived.Test.YtfaenbaaadjbbaaW6
import Derived.Test.YtfaenbaaadjbbaaPlain5
import Derived.Deep.RegionHeld3
namespace Go.Proofs.Ytfaenbaaadjbbaa
open Go.RowKit

set_option maxRecDepth 100000 in
set_option maxHeartbeats 4000000 in
/-- luck.allowed -/
theorem f56_any (A : Option Addr) (k n c : Nat) (goal : List Int) (w : World) (hs : Ints w A n goal) (hk : k ≤ 10) (hn : n = 2 ^ k) (hg : ∀ i, 0 ≤ goal.getD i 0 ∧ goal.getD i 0 ≤ 600) :
    Calls Try.prog 56 #[.slice A n c] w fun e w' => e = .returned (.int .i64 (lev 122880 (sc 2048 goal) k 0)) ∧ Below w.heap.size w w' := by
  have hn1 : n ≤ 1024 := by rw [hn]; exact pow10 k hk
  have hp : 0 < n := by rw [hn]; exact Nat.pow_pos (by omega)
  have HN := Lib.hid hn
  have HG := Lib.hid hg
  have HS := Lib.hid hs
  have HV : Hid (∀ j i, j ≤ 10 → -1228800 ≤ lev 122880 (sc 2048 goal) j i ∧ lev 122880 (sc 2048 goal) j i ≤ 1228800) := fun j i hj => by
    have h1 := lev_bounds (one := 122880) (g := sc 2048 goal) (M := 1228800) (by omega) (fun i => by have := hg i; unfold sc; omega) j i
    omega
  clear hg hn hs
  go_enter Try.func56, Try.ntmps56
  go_wp2
  go_loopw [3, 5, 10] (fun v _ i wr => ∃ q : Nat, q ≤ n ∧ i = .int .i64 (q : Int) ∧ Row wr w.heap.size v (levL 122880 (sc 2048 goal) 0 q) ∧ Below w.heap.size w wr) (fun _ _ i _ => n - (intOf i).toNat)
  case atStart => exact ⟨0, by omega, rfl, Row.nil _ _, Below.refl _ _⟩
  case round => as_aux_lemma =>
    obtain ⟨q, hq, rfl, hrow, hbel⟩ := hrel
    have HR := Lib.hid hrow
    have HB := Lib.hid hbel
    have hsz := hbel.size
    by_cases hlt : q < n
    · obtain ⟨b, off, rfl, hc⟩ := HS.out.at_ hlt
      have hc1 := (hbel.cell (lt_of_cell hc)).trans hc
      have hst := Lib.hid (levL_succ 122880 (sc 2048 goal) 0 q)
      have hx1 := HG.out q
      have hx2 : Hid (lev 122880 (sc 2048 goal) 0 q = goal.getD q 0 * 2048) := rfl
      rw [hx2.out] at hst
      generalize goal.getD q 0 = x at *
      clear hrow hbel hc hx2
      go_wp2_with (at_builtin; refine wpList_push rfl (.tmp 14) (.tmp 17) rfl w.heap.size _ (levL 122880 (sc 2048 goal) 0 q) rfl (HR.out.alloc _) wr.heap.size 1 (x * 2048) rfl ?hc ?hl ?hb ?hr)
      case hc => exact cell_new wr _ 3 0
      case hl => rw [levL_len]; omega
      case hb => simp; omega
      case hr =>
        intro v' w' hr' hg'
        rw [hst.out] at hr'
        have HR2 := Lib.hid hr'
        have HB3 : Hid (Below w.heap.size w w') := below_grown (HB.out.alloc hsz _) hg' (by simp; omega) (HR.out.alloc _) (Nat.le_refl _)
        clear hr' hg'
        go_wp2_with fail
        go_roundw
        case rel => exact ⟨q + 1, by omega, by go_num, HR2.out, HB3.out⟩
        case measure => simp [intOf]; omega
    · obtain rfl : q = n := by omega
      obtain ⟨A0, c0, rfl, hi0⟩ := hrow.form
      have hi0 := hi0 1024 (by rw [levL_len]; exact hn1) (by omega)
      rw [levL_len] at hi0
      rw [levL_len]
      have HI := Lib.hid hi0
      have HL0 : Hid (0 ≤ k ∧ q = 2 ^ (k - 0)) := ⟨by omega, HN.out⟩
      clear hi0 hrow hbel
      go_wp2
      go_loopw [3, 6, 7] (fun v _ _ wr => ∃ (j m : Nat) (A0 : Option Addr) (c0 : Nat), Hid (j ≤ k ∧ m = 2 ^ (k - j)) ∧ v = .slice A0 m c0 ∧ Ints wr A0 m (levL 122880 (sc 2048 goal) j m) ∧ Below w.heap.size w wr) (fun v _ _ _ => match v with | .slice _ m _ => m | _ => 0)
      case atStart => exact ⟨0, q, _, _, HL0.out, rfl, HI.out, HB.out⟩
      case round => as_aux_lemma =>
        obtain ⟨j, m, A1, c1, hjm, rfl, hi, hbel⟩ := hrel
        have HJ := Lib.hid hjm
        have HI1 := Lib.hid hi
        have HB1 := Lib.hid hbel
        have hm1 : m ≤ 1024 := by rw [hjm.out.2]; exact pow10 _ (by omega)
        by_cases hgt : 1 < m
        · have hjk : j < k := by
            rcases Nat.lt_or_ge j k with h | h
            · exact h
            · have := hjm.out.2
              rw [show k - j = 0 by omega] at this
              omega
          obtain ⟨h, hh⟩ : ∃ h, h = 2 ^ (k - (j + 1)) := ⟨_, rfl⟩
          have hm2 : Hid (m = 2 * h) := by rw [hh, ← half_pow hjk]; exact hjm.out.2
          have hmh : h ≤ m := by have := hm2.out; omega
          have HH := Lib.hid hh
          clear hjm hi hbel hh
          obtain ⟨b1, off1, rfl, hc1⟩ := HI1.out.ad (by omega)
          have HC := Lib.hid hc1
          clear hc1
          obtain ⟨wq, rfl⟩ : ∃ wq : World, wq = wr := ⟨_, rfl⟩
          have hq1 : decide ((1 : Int) < (m : Int)) = true := by simp; omega
          go_wp2
          go_loopw [6, 7] (fun v i w2 => ∃ t I : Nat, Hid (I = 2 * t) ∧ I ≤ m ∧ t ≤ h ∧ i = .int .i64 (I : Int) ∧ Row w2 wq.heap.size v (levL 122880 (sc 2048 goal) (j + 1) t) ∧ Below wq.heap.size wq w2) (fun _ i _ => m - (intOf i).toNat)
          case atStart => exact ⟨0, 0, Lib.hid rfl, by omega, by omega, rfl, Row.nil _ _, Below.refl _ _⟩
          case round => as_aux_lemma =>
            obtain ⟨t, I, hIt, hI, ht, rfl, hrow, hbel⟩ := hrel
            have HR := Lib.hid hrow
            have HB2 := Lib.hid hbel
            have hsz := hbel.size
            by_cases hlt : I < m
            · have htl : t < h := by have := hIt.out; have := hm2.out; omega
              obtain ⟨J, hJ⟩ : ∃ J, J = I + 1 := ⟨_, rfl⟩
              have HJ1 := Lib.hid hJ
              have hJm : J < m := by have := hIt.out; have := hm2.out; omega
              have e1 : Hid (wq.cell? ⟨b1, off1 + I, none⟩ = some (.int .i64 (lev 122880 (sc 2048 goal) j (2 * t)))) := by
                rw [← hIt.out, ← levL_get hlt]; exact HC.out I hlt
              have e2 : Hid (wq.cell? ⟨b1, off1 + J, none⟩ = some (.int .i64 (lev 122880 (sc 2048 goal) j (2 * t + 1)))) := by
                rw [← hIt.out, ← HJ1.out, ← levL_get hJm]; exact HC.out J hJm
              have d1 := (hbel.cell (lt_of_cell e1.out)).trans e1.out
              have d2 := (hbel.cell (lt_of_cell e2.out)).trans e2.out
              have v1 := HV.out j (2 * t) (by omega)
              have v2 := HV.out j (2 * t + 1) (by omega)
              have hst := Lib.hid (levL_succ 122880 (sc 2048 goal) (j + 1) t)
              have hx : Hid (lev 122880 (sc 2048 goal) (j + 1) t = min (min (lev 122880 (sc 2048 goal) j (2 * t)) (lev 122880 (sc 2048 goal) j (2 * t + 1))) ((lev 122880 (sc 2048 goal) j (2 * t) + lev 122880 (sc 2048 goal) j (2 * t + 1) - 122880) / 2)) := rfl
              rw [hx.out] at hst
              clear hx
              generalize lev 122880 (sc 2048 goal) j (2 * t) = x at *
              generalize lev 122880 (sc 2048 goal) j (2 * t + 1) = y at *
              have w1 : IntKind.i64.wrap ((I : Int) + 1) = (J : Int) := by rw [IntWalk.i64_in _ (by omega)]; omega
              have w2' : IntKind.i64.wrap (x + y) = x + y := IntWalk.i64_in _ (by omega)
              have w3 : IntKind.i64.wrap (x + y - 122880) = x + y - 122880 := IntWalk.i64_in _ (by omega)
              have b1' : (0 : Int) ≤ (I : Int) := by omega
              have b2' : (I : Int) < (m : Int) := by omega
              have b3' : (0 : Int) ≤ (J : Int) := by omega
              have b4' : (J : Int) < (m : Int) := by omega
              clear hrow hbel hJ
              obtain ⟨z, hz⟩ : ∃ z, z = min (min x y) ((x + y - 122880) / 2) := ⟨_, rfl⟩
              have HZ : Hid (z = (if (x + y - 122880) / 2 < if y < x then y else x then (x + y - 122880) / 2 else if y < x then y else x)) := by
                unfold Hid; rw [hz]; split <;> split <;> omega
              rw [← hz] at hst
              clear hz
              go_wp2_with fail
              have R1 : Hid (Row ((wr.alloc (.cells #[.int .i64 (if (x + y - 122880) / 2 < if y < x then y else x then (x + y - 122880) / 2 else if y < x then y else x)] 3)).drew) wq.heap.size u6 (levL 122880 (sc 2048 goal) (j + 1) t)) := HR.out.alloc _
              have R2 : Hid (((wr.alloc (.cells #[.int .i64 (if (x + y - 122880) / 2 < if y < x then y else x then (x + y - 122880) / 2 else if y < x then y else x)] 3)).drew).cell? ⟨wr.heap.size, 0, none⟩ = some (.int .i64 (if (x + y - 122880) / 2 < if y < x then y else x then (x + y - 122880) / 2 else if y < x then y else x))) := cell_new wr _ 3 0
              have R3 : Hid ((levL 122880 (sc 2048 goal) (j + 1) t).length ≤ 1000000) := by rw [levL_len]; unfold Hid; omega
              have R4 : Hid (wq.heap.size ≤ ((wr.alloc (.cells #[.int .i64 (if (x + y - 122880) / 2 < if y < x then y else x then (x + y - 122880) / 2 else if y < x then y else x)] 3)).drew).heap.size) := by unfold Hid; simp; omega
              have R5 : Hid (∀ w', ((wr.alloc (.cells #[.int .i64 (if (x + y - 122880) / 2 < if y < x then y else x then (x + y - 122880) / 2 else if y < x then y else x)] 3)).drew).grownBy w' u6.ownBlock → Below wq.heap.size wq w') := fun w' hg => below_grown ((HB2.out.alloc hsz _).drew) hg R4.out R1.out (Nat.le_refl _)
              have R6 : Hid (∀ w', ((wr.alloc (.cells #[.int .i64 (if (x + y - 122880) / 2 < if y < x then y else x then (x + y - 122880) / 2 else if y < x then y else x)] 3)).drew).grownBy w' u6.ownBlock → w'.cell? ⟨b1, off1 + I, none⟩ = some (.int .i64 x) ∧ w'.cell? ⟨b1, off1 + J, none⟩ = some (.int .i64 y)) := fun w' hg => by
                have h1 := R5.out w' hg
                exact ⟨(h1.cell (lt_of_cell e1.out)).trans e1.out, (h1.cell (lt_of_cell e2.out)).trans e2.out⟩
              clear e1 e2
              go_region_held3 (fun w' => w'.cell? ⟨b1, off1 + I, none⟩ = some (.int .i64 x) ∧ w'.cell? ⟨b1, off1 + J, none⟩ = some (.int .i64 y))
                (first | go_keep | exact R6.out _ hg')
                (first | (go_at_call 79; refine (f79_any _ _).mono ?_; rintro e w' ⟨rfl, rfl⟩) | (refine step_push (by rfl) _ _ (by rfl) wq.heap.size u6 (levL 122880 (sc 2048 goal) (j + 1) t) (by rfl) R1.out wr.heap.size 1 (if (x + y - 122880) / 2 < if y < x then y else x then (x + y - 122880) / 2 else if y < x then y else x) (by rfl) R2.out R3.out R4.out ?_; intro v' w' hr' hg'))
              rw [← HZ.out] at hr' ⊢
              rw [hst.out] at hr'
              have HR2 := Lib.hid hr'
              have HB3 := Lib.hid (R5.out _ hg')
              have hI2 : I + 2 ≤ m := by have := HJ1.out; omega
              clear hr' hg'
              go_wp2_with fail
              go_roundw
              case rel => exact ⟨t + 1, I + 2, by have := hIt.out; unfold Hid; omega, hI2, by omega, by go_num, HR2.out, HB3.out⟩
              case measure => simp [intOf]; omega
            · have htl : t = h := by have := hIt.out; have := hm2.out; omega
              subst htl
              obtain ⟨A2, c2, rfl, hio⟩ := hrow.form
              have hio := hio 1024 (by rw [levL_len]; omega) (by omega)
              rw [levL_len] at hio
              rw [levL_len]
              have HI2 := Lib.hid hio
              have HB4 := Lib.hid (below_step HB1.out hbel)
              have hjm' : Hid (j + 1 ≤ k ∧ t = 2 ^ (k - (j + 1))) := ⟨hjk, HH.out⟩
              have htm : t < m := by have := hm2.out; omega
              clear hio hrow hbel
              go_wp2
              go_roundw
              case rel => exact ⟨j + 1, t, A2, c2, hjm', rfl, HI2.out, HB4.out⟩
              case measure => simp; omega
        · have hjk : j = k := by
            rcases Nat.lt_or_ge j k with h | h
            · have h1 := hjm.out.2
              have h2 : 2 ^ 1 ≤ 2 ^ (k - j) := Nat.pow_le_pow_right (by omega) (by omega)
              omega
            · have := hjm.out.1; omega
          subst hjk
          have hm : m = 1 := by have := hjm.out.2; rw [Nat.sub_self] at this; exact this
          subst hm
          obtain ⟨b1, off1, rfl, hc1⟩ := hi.ad (by omega)
          have hc0 := hc1 0 (by omega)
          rw [levL_get (by omega), Nat.add_zero] at hc0
          clear hc1 hjm hi hbel
          go_wp2
          go_ret
          exact ⟨rfl, HB1.out⟩
end Go.Proofs.Ytfaenbaaadjbbaa
