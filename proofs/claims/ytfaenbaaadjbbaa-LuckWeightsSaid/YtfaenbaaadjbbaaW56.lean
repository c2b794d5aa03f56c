/- Walks: the specification's numbers: trim, whole, Of, cmpD, Compare. -/
import Derived.Test.YtfaenbaaadjbbaaW42
import Derived.Test.YtfaenbaaadjbbaaPlain17
import Derived.StillTailTactics
namespace Go.Proofs.Ytfaenbaaadjbbaa
open Go.RowKit

theorem nn_snoc' (ds : List Nat) (x : Nat) : nn ds ++ [(x : Int)] = nn (ds ++ [x]) := nn_snoc ds x
theorem nn_take (ds : List Nat) (k : Nat) : nn (ds.take k) = (nn ds).take k := by simp [nn, List.map_take]
theorem take_snoc {ds : List Nat} {t : Nat} (h : t < ds.length) : ds.take t ++ [ds.getD t 0] = ds.take (t + 1) := by
  rw [List.take_add_one]; simp [List.getD_eq_getElem?_getD, h]
/-- A new slice of digits came back. -/
def SlD (w : World) (N : Nat) (e : Ending) (w' : World) : Prop := ∃ (v : Value) (ds : List Nat), e = .returned v ∧ Row w' w.heap.size v (nn ds) ∧ ds.length ≤ 1000 ∧ SmallT ds ∧ NormT ds ∧ valT ds = N ∧ Below w.heap.size w w'
set_option maxRecDepth 100000 in
set_option maxHeartbeats 2000000 in
/-- dibberref01.trim -/
theorem f83_any (A : Option Addr) (ds : List Nat) (c : Nat) (w : World) (hs : Ints w A ds.length (nn ds)) (hsm : SmallT ds) (hl : ds.length ≤ 1000) :
    Calls Try.prog 83 #[.slice A ds.length c] w (SlD w (valT ds)) := by
  have HS := Lib.hid hs
  have HSM := Lib.hid hsm
  obtain ⟨n, hn⟩ : ∃ n, n = ds.length := ⟨_, rfl⟩
  rw [← hn] at HS hl ⊢
  have HN := Lib.hid hn
  clear hs hsm hn
  go_enter Try.func83, Try.ntmps83
  go_wp2
  go_loop [3] (fun i => ∃ k : Nat, k ≤ n ∧ i = .int .i64 (k : Int) ∧ Hid (∀ j, k ≤ j → j < n → ds.getD j 0 = 0)) (fun i => (intOf i).toNat)
  case atStart => exact ⟨n, by omega, rfl, fun j h1 h2 => by omega⟩
  case round => as_aux_lemma =>
    obtain ⟨k, hk, rfl, hz⟩ := hrel
    by_cases h0 : k = 0 ∨ ds.getD (k - 1) 0 ≠ 0
    · have hnorm : Hid (NormT (ds.take k)) := trimT_norm (by rw [← HN.out]; exact hk) h0
      have hval : Hid (valT (ds.take k) = valT ds) := trimT_val (by rw [← HN.out]; exact hk) (by rw [← HN.out]; exact hz.out)
      have hsmall : Hid (SmallT (ds.take k)) := smallT_take HSM.out k
      have hlen : Hid ((ds.take k).length = k) := by rw [List.length_take]; have := HN.out; unfold Hid; omega
      have hgo : k = 0 ∨ (0 < k ∧ ∃ u : Nat, k = u + 1 ∧ ∃ b off, A = some ⟨b, off, none⟩ ∧ w.cell? ⟨b, off + u, none⟩ = some (.int .i64 (ds.getD u 0 : Int)) ∧ ds.getD u 0 ≠ 0) := by
        rcases Nat.eq_zero_or_pos k with h | h
        · exact .inl h
        · right
          obtain ⟨b, off, e, hc⟩ := HS.out.at_ (show k - 1 < n by omega)
          rw [nn_get] at hc
          exact ⟨h, k - 1, by omega, b, off, e, hc, h0.resolve_left (by omega)⟩
      clear h0
      rcases hgo with h0 | ⟨h0, u, hku, b, off, rfl, hcu, hu⟩
      all_goals first
        | (have hq : ((ds.getD u 0 : Int) == 0) = false := by simpa using hu
           have hu0 : (0 : Int) ≤ (u : Int) := by omega
           have hun : (u : Int) < (n : Int) := by omega
           have hk0 : (0 : Int) < (k : Int) := by omega
           have hwu : IntKind.i64.wrap ((k : Int) - 1) = (u : Int) := by rw [IntWalk.i64_in _ (by omega)]; omega
           generalize ds.getD u 0 = y at *
           clear hu hku)
        | (have hk0 : ¬ (0 : Int) < (k : Int) := by omega)
      all_goals
        clear h0
        go_wp2_with fail
        go_loopw [4, 5] (fun v i wr => ∃ t : Nat, t ≤ k ∧ i = .int .i64 (t : Int) ∧ Row wr w.heap.size v (nn (ds.take t)) ∧ Below w.heap.size w wr) (fun _ i _ => k - (intOf i).toNat)
        case atStart => exact ⟨0, by omega, rfl, Row.nil _ _, Below.refl _ _⟩
        case round => as_aux_lemma =>
          obtain ⟨t, ht, rfl, hrow, hbel⟩ := hrel
          have HRW := Lib.hid hrow
          have HB := Lib.hid hbel
          have hsz := hbel.size
          by_cases hlt : t < k
          · first
            | (exfalso; omega)
            | skip
            all_goals
              obtain ⟨b3, o3, hA3, hct⟩ := HS.out.at_ (show t < n by omega)
              rw [nn_get] at hct
              have hct := (hbel.cell (lt_of_cell hct)).trans hct
              have hst : Hid (nn (ds.take t) ++ [(ds.getD t 0 : Int)] = nn (ds.take (t + 1))) := by
                rw [nn_snoc, take_snoc (by rw [← HN.out]; omega)]; rfl
              have hll : Hid ((nn (ds.take t)).length ≤ 1000000) := by rw [nn_len, List.length_take]; unfold Hid; omega
              generalize ds.getD t 0 = z at *
              have t0 : (0 : Int) ≤ (t : Int) := by omega
              have tn : (t : Int) < (n : Int) := by omega
              have tk : (t : Int) < (k : Int) := by omega
              clear hrow hbel
              first
                | subst hA3
                | (injection hA3 with hA3
                   injection hA3 with hA4 hA5
                   subst hA4 hA5)
              go_wp2_with (at_builtin; refine wpList_push rfl (.tmp 25) (.tmp 30) rfl w.heap.size _ (nn (ds.take t)) rfl (HRW.out.alloc _) wr.heap.size 1 (z : Int) rfl (cell_new wr _ 3 0) hll.out (by simp; omega) ?_; intro v2 w4 hr4 hg4)
              rw [hst.out] at hr4
              have B4 : Hid (Below w.heap.size w w4) := below_grown (HB.out.alloc hsz _) hg4 (by simp; omega) (HRW.out.alloc _) (Nat.le_refl _)
              have R4 := Lib.hid hr4
              clear hr4 hg4
              go_wp2_with fail
              go_roundw
              case rel => exact ⟨t + 1, by omega, by go_num, R4.out, B4.out⟩
              case measure => simp [intOf]; omega
          · obtain rfl : t = k := by omega
            have hfull : Hid ((ds.take t).length ≤ 1000) := by rw [hlen.out]; unfold Hid; omega
            clear hrow hbel
            go_wp2
            go_ret
            exact ⟨_, _, rfl, HRW.out, hfull.out, hsmall.out, hnorm.out, hval.out, HB.out⟩
    · have hk1 : 0 < k := by
        rcases Nat.eq_zero_or_pos k with h | h
        · exact absurd (.inl h) h0
        · exact h
      obtain ⟨u, hku⟩ : ∃ u, k = u + 1 := ⟨k - 1, by omega⟩
      obtain ⟨b, off, rfl, hc⟩ := HS.out.at_ (show u < n by omega)
      have hz0 : ds.getD u 0 = 0 := by
        rcases Nat.eq_zero_or_pos (ds.getD u 0) with h | h
        · exact h
        · exfalso; apply h0; right; rw [hku, Nat.add_sub_cancel]; omega
      rw [nn_get, hz0] at hc
      have hz2 : Hid (∀ j, u ≤ j → j < n → ds.getD j 0 = 0) := fun j h1 h2 => by
        rcases Nat.lt_or_ge j k with h | h
        · obtain rfl : j = u := by omega
          exact hz0
        · exact hz.out j h h2
      have hu0 : (0 : Int) ≤ (u : Int) := by omega
      have hun : (u : Int) < (n : Int) := by omega
      have hk0 : (0 : Int) < (k : Int) := by omega
      have hwu : IntKind.i64.wrap ((k : Int) - 1) = (u : Int) := by rw [IntWalk.i64_in _ (by omega)]; omega
      have hmeas : Hid (u < k) := by unfold Hid; omega
      have hun2 : u ≤ n := by omega
      clear h0 hz0 hz hku
      go_wp2
      go_round
      case rel => exact ⟨u, hun2, rfl, hz2⟩
      case measure => simp [intOf]; exact hmeas.out
end Go.Proofs.Ytfaenbaaadjbbaa
