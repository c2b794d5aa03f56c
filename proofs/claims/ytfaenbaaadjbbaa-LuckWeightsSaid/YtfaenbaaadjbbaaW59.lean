/- Walks: cmpD, Compare. -/
import Derived.Test.YtfaenbaaadjbbaaW58
namespace Go.Proofs.Ytfaenbaaadjbbaa
open Go.RowKit

/-- How two numbers compare. -/
def cmpN (x y : Nat) : Int := if x < y then -1 else if y < x then 1 else 0
theorem cmpN_lt {x y : Nat} (h : x < y) : cmpN x y = -1 := by unfold cmpN; rw [if_pos h]
theorem cmpN_gt {x y : Nat} (h : y < x) : cmpN x y = 1 := by unfold cmpN; rw [if_neg (by omega), if_pos h]
theorem cmpN_eq {x y : Nat} (h : x = y) : cmpN x y = 0 := by unfold cmpN; rw [if_neg (by omega), if_neg (by omega)]
theorem cmpN_le {x y : Nat} : cmpN x y ≤ 0 ↔ x ≤ y := by
  unfold cmpN
  split
  · constructor <;> intro <;> omega
  · split
    · constructor <;> intro <;> omega
    · constructor <;> intro <;> omega
set_option maxRecDepth 100000 in
set_option maxHeartbeats 2000000 in
/-- dibberref01.cmpD -/
theorem f69_any (A B : Option Addr) (ds es : List Nat) (c d : Nat) (w : World) (ha : Ints w A ds.length (nn ds)) (hb : Ints w B es.length (nn es)) (hla : ds.length ≤ 1000) (hlb : es.length ≤ 1000)
    (hsa : SmallT ds) (hsb : SmallT es) (hna : NormT ds) (hnb : NormT es) :
    Calls Try.prog 69 #[.slice A ds.length c, .slice B es.length d] w fun e w' => e = .returned (.int .i64 (cmpN (valT ds) (valT es))) ∧ ∃ q, w' = w.drewN q := by
  have HA := Lib.hid ha
  have HB := Lib.hid hb
  have HS := Lib.hid (And.intro hsa (And.intro hsb (And.intro hna hnb)))
  have hlt1 : Hid (ds.length < es.length → cmpN (valT ds) (valT es) = -1) := fun h => cmpN_lt (shorterT_lt hsa hnb h)
  have hgt1 : Hid (es.length < ds.length → cmpN (valT ds) (valT es) = 1) := fun h => cmpN_gt (shorterT_lt hsb hna h)
  have heq : Hid (ds.length = es.length → valT ds = valTd ds ds.length ∧ valT es = valTd es ds.length) := fun h => ⟨rfl, by unfold valT; rw [h]⟩
  obtain ⟨x, hx⟩ : ∃ x, x = valT ds := ⟨_, rfl⟩
  obtain ⟨y, hy⟩ : ∃ y, y = valT es := ⟨_, rfl⟩
  obtain ⟨r, hr⟩ : ∃ r, r = cmpN x y := ⟨_, rfl⟩
  rw [← hx, ← hy] at heq
  rw [← hx, ← hy, ← hr] at hlt1 hgt1 ⊢
  have HR := Lib.hid hr
  generalize ds.length = n at *
  generalize es.length = m at *
  clear ha hb hsa hsb hna hnb hx hy hr
  rcases Nat.lt_trichotomy n m with h | h | h
  · have e := hlt1.out h
    subst e
    have h1 : (n : Int) < (m : Int) := by omega
    clear h
    go_enter Try.func69, Try.ntmps69
    go_wp2
    go_ret
    exact ⟨rfl, 0, rfl⟩
  · subst h
    have h1 : ¬ (n : Int) < (n : Int) := by omega
    have he := Lib.hid (heq.out rfl)
    clear hlt1 hgt1 heq
    go_enter Try.func69, Try.ntmps69
    go_wp2
    go_loopw [5] (fun i wr => ∃ j : Nat, j ≤ n ∧ i = .int .i64 ((j : Int) - 1) ∧ Hid (∀ t, j ≤ t → t < n → ds.getD t 0 = es.getD t 0) ∧ ∃ q, wr = w.drewN q) (fun i _ => (intOf i + 1).toNat)
    case atStart => exact ⟨n, Nat.le_refl _, by go_num, fun t h2 h3 => absurd h3 (by omega), 0, rfl⟩
    case round => as_aux_lemma =>
      obtain ⟨j, hj, rfl, hsame, q, rfl⟩ := hrel
      rcases Nat.eq_zero_or_pos j with hj0 | hj0
      · subst hj0
        have hr0 : r = 0 := by
          rw [HR.out, he.out.1, he.out.2]
          exact cmpN_eq (valTd_congr fun t ht => hsame.out t (by omega) ht)
        subst hr0
        have h3 : ¬ (0 : Int) ≤ ((0 : Nat) : Int) - 1 := by omega
        go_wp2
        go_ret
        exact ⟨rfl, q, rfl⟩
      · obtain ⟨u, rfl⟩ : ∃ u, j = u + 1 := ⟨j - 1, by omega⟩
        have e1 : ((u + 1 : Nat) : Int) - 1 = (u : Int) := by omega
        rw [e1] at *
        obtain ⟨b1, o1, rfl, h1a⟩ := HA.out.at_ (show u < n by omega)
        obtain ⟨b2, o2, rfl, h2a⟩ := HB.out.at_ (show u < n by omega)
        rw [nn_get] at h1a h2a
        have u0 : (0 : Int) ≤ (u : Int) := by omega
        have u1 : (u : Int) < (n : Int) := by omega
        have hw : IntKind.i64.wrap ((u : Int) - 1) = (u : Int) - 1 := by rw [IntWalk.i64_in _ (by omega)]
        rcases Nat.lt_trichotomy (ds.getD u 0) (es.getD u 0) with h | h | h
        · have e : r = -1 := by
            rw [HR.out, he.out.1, he.out.2]
            exact cmpN_lt (digitT_lt HS.out.1 (i := u) (by omega) (fun t h2 h3 => hsame.out t (by omega) h3) h)
          subst e
          generalize ds.getD u 0 = p1 at *
          generalize es.getD u 0 = p2 at *
          have hq : (p1 : Int) < (p2 : Int) := by omega
          clear h
          go_wp2
          go_quiet (fail)
          go_wp2
          go_ret
          exact ⟨rfl, by first | exact ⟨_, rfl⟩ | exact ⟨_, World.drewN_drewN _ _ _⟩⟩
        · have hs2 : Hid (∀ t, u ≤ t → t < n → ds.getD t 0 = es.getD t 0) := fun t h2 h3 => by
            rcases Nat.lt_or_ge u t with h4 | h4
            · exact hsame.out t (by omega) h3
            · obtain rfl : t = u := by omega
              exact h
          generalize ds.getD u 0 = p1 at *
          generalize es.getD u 0 = p2 at *
          subst h
          have hq : ¬ (p1 : Int) < (p1 : Int) := by omega
          have hq2 : (u : Int) - 1 + 1 = (u : Int) := by omega
          go_wp2
          go_quiet (fail)
          go_wp2
          go_quiet (fail)
          go_wp2
          go_roundw
          case rel => exact ⟨u, by omega, by go_num, hs2, by first | exact ⟨_, rfl⟩ | exact ⟨_, World.drewN_drewN _ _ _⟩ | (rw [World.drewN_drewN, World.drewN_drewN]; exact ⟨_, rfl⟩)⟩
          case measure => simp [intOf]
        · have e : r = 1 := by
            rw [HR.out, he.out.1, he.out.2]
            exact cmpN_gt (digitT_lt HS.out.2.1 (i := u) (by omega) (fun t h2 h3 => (hsame.out t (by omega) h3).symm) h)
          subst e
          generalize ds.getD u 0 = p1 at *
          generalize es.getD u 0 = p2 at *
          have hq : ¬ (p1 : Int) < (p2 : Int) := by omega
          have hq2 : (p2 : Int) < (p1 : Int) := by omega
          clear h
          go_wp2
          go_quiet (fail)
          go_wp2
          go_quiet (fail)
          go_wp2
          go_ret
          exact ⟨rfl, by first | exact ⟨_, rfl⟩ | exact ⟨_, World.drewN_drewN _ _ _⟩ | (rw [World.drewN_drewN, World.drewN_drewN]; exact ⟨_, rfl⟩)⟩
  · have e := hgt1.out h
    subst e
    have h1 : ¬ (n : Int) < (m : Int) := by omega
    have h2 : (m : Int) < (n : Int) := by omega
    clear h
    go_enter Try.func69, Try.ntmps69
    go_wp2
    go_ret
    exact ⟨rfl, 0, rfl⟩
set_option maxRecDepth 100000 in
set_option maxHeartbeats 2000000 in
/-- dibberref01.Compare -/
theorem f40_any (v1 v2 : Value) (b1 b2 x y : Nat) (w : World) (h1 : BigT w b1 v1 x) (h2 : BigT w b2 v2 y) :
    Calls Try.prog 40 #[v1, v2] w fun e w' => e = .returned (.int .i64 (cmpN x y)) ∧ Below w.heap.size w w' := by
  obtain ⟨A, ds, c, rfl, hi1, hl1, hs1, hn1, rfl⟩ := h1.form
  obtain ⟨B, es, d, rfl, hi2, hl2, hs2, hn2, rfl⟩ := h2.form
  have k69 : Hid (∀ w1, Below w.heap.size w w1 → Calls Try.prog 69 #[.slice A ds.length c, .slice B es.length d] w1 fun e w' => e = .returned (.int .i64 (cmpN (valT ds) (valT es))) ∧ ∃ q, w' = w1.drewN q) := fun w1 hb => f69_any A B ds es c d w1 (hi1.below hb) (hi2.below hb) hl1 hl2 hs1 hs2 hn1 hn2
  generalize cmpN (valT ds) (valT es) = r at *
  have hk1 := hi1.small
  have hk2 := hi2.small
  generalize ds.length = n at *
  generalize es.length = m at *
  clear h1 h2 hi1 hi2 hl1 hl2 hs1 hs2 hn1 hn2
  go_enter Try.func40, Try.ntmps40
  go_wp2_with fail
  have hb2 : Below w.heap.size w ((w.alloc (.cells #[.bool false, .slice A n c] 54)).alloc (.cells #[.bool false, .slice B m d] 54)) := below_step (below_alloc w _) (below_alloc _ _)
  refine (k69.out _ hb2).mono ?_
  rintro e w2 ⟨rfl, q, rfl⟩
  have c0 : (((w.alloc (.cells #[.bool false, .slice A n c] 54)).alloc (.cells #[.bool false, .slice B m d] 54)).drewN q).cell? ⟨w.heap.size, 0, none⟩ = some (.bool false) := ((bcell (below_alloc (w.alloc (.cells #[.bool false, .slice A n c] 54)) _)).1 w.heap.size 0 (by simp)).trans (cell_new w _ 54 0)
  have hb3 := Lib.hid (below_drewN hb2 q)
  clear hb2
  go_wp2
  go_ret
  exact ⟨rfl, hb3.out⟩
end Go.Proofs.Ytfaenbaaadjbbaa
