/- Walks: Check, valid, full; the specification's Check, Bed, Full. -/
import Derived.Test.YtiodednhadnekaaDoorW4
namespace Go.Proofs.YtiodednhadnekaaDoor
open Go.RowKit Go.Deep

def chR (b : List (List Int)) : Int := if shapedB b = true then clR b else 0
def chC (b : List (List Int)) : Int := if shapedB b = true then clC b else 0
def chE (b : List (List Int)) : Int := if shapedB b = true then (if clB b = true then 0 else 10) else 2
theorem shaped_rows {b : List (List Int)} {n : Nat} (h : shapedB b = true) (hl : b.length = n) : (∀ i, i < n → (b.getD i []).length = n) ∧ n ≤ 7 := by
  obtain ⟨h1, h2, h3, _⟩ := shaped_iff.1 h
  subst hl
  exact ⟨h3.2, h2⟩
section
variable (A : Option Addr) (n c : Nat) (b : List (List Int)) (w : World) (hs : Beds w A n c b)
include hs
set_option maxHeartbeats 1000000 in
/-- bed.Check -/
theorem f25_any : Calls Tryd.prog 25 #[.slice A n c] w fun e w' => e = .returned (.tuple #[.int .i64 (chR b), .int .i64 (chC b), .int .i64 (chE b)]) ∧ Below w.heap.size w w' := by
  have K70 := Lib.hid (f70_any A n c b w hs)
  cases hsh : shapedB b
  · rw [hsh] at K70
    have HR : Hid (chR b = 0 ∧ chC b = 0 ∧ chE b = 2) := by unfold chR chC chE; rw [hsh]; exact ⟨rfl, rfl, rfl⟩
    clear hs hsh
    go_enter Tryd.func25, Tryd.ntmps25
    go_wp2_with fail
    refine K70.out.mono ?_
    rintro e w1 ⟨rfl, hb⟩
    have HB := Lib.hid hb
    clear hb
    go_wp2
    go_ret3
    exact ⟨by rw [HR.out.1, HR.out.2.1, HR.out.2.2]; rfl, HB.out⟩
  · rw [hsh] at K70
    obtain ⟨h1, h2⟩ := shaped_rows hsh hs.len
    have K71 : Hid (∀ W, Below w.heap.size w W → Calls Tryd.prog 71 #[.slice A n c] W fun e w' => e = .returned (.tuple #[.int .i64 (clR b), .int .i64 (clC b), .bool (clB b)]) ∧ Below W.heap.size W w') := fun W hb => f71_any A n c n b W (hs.below hb) h1 (by omega)
    have HR : Hid (∀ z, clB b = z → chR b = (if z = true then clR b else 0) ∧ chC b = (if z = true then clC b else 0) ∧ chE b = if z = true then 0 else 10) := fun z hz => by
      unfold chR chC chE; rw [hsh]; subst hz
      cases h : clB b
      · obtain ⟨a, b, _⟩ := cl_none (clB_false.1 h)
        exact ⟨a, b, rfl⟩
      · exact ⟨rfl, rfl, rfl⟩
    generalize clR b = x at *
    generalize clC b = y at *
    cases hcl : clB b
    all_goals
      rw [hcl] at K71
      obtain ⟨r1, r2, r3⟩ := HR.out _ hcl
      have H1 := Lib.hid r1
      have H2 := Lib.hid r2
      have H3 := Lib.hid r3
      clear hs hsh r1 r2 r3 h1 hcl
      go_enter Tryd.func25, Tryd.ntmps25
      go_wp2_with fail
      refine K70.out.mono ?_
      rintro e w1 ⟨rfl, hb⟩
      have HB := Lib.hid hb
      clear hb
      go_wp2_with fail
      refine (K71.out _ HB.out).mono ?_
      rintro e w2 ⟨rfl, hb⟩
      have HB := Lib.hid (below_step HB.out hb)
      clear hb
      go_wp2
      go_ret3
      exact ⟨by rw [H1.out, H2.out, H3.out]; rfl, HB.out⟩
set_option maxHeartbeats 1000000 in
/-- dibberref01.Check -/
theorem f26_any : Calls Tryd.prog 26 #[.slice A n c] w fun e w' => e = .returned (.tuple #[.int .i64 (chR b), .int .i64 (chC b), .int .i64 (chE b)]) ∧ w = w' := by
  have K72 := Lib.hid (f72_any A n c b w hs)
  cases hsh : shapedB b
  · rw [hsh] at K72
    have HR : Hid (chR b = 0 ∧ chC b = 0 ∧ chE b = 2) := by unfold chR chC chE; rw [hsh]; exact ⟨rfl, rfl, rfl⟩
    clear hs hsh
    go_enter Tryd.func26, Tryd.ntmps26
    go_wp2_with fail
    refine K72.out.mono ?_
    rintro e w1 ⟨rfl, rfl⟩
    go_wp2
    go_ret3
    exact ⟨by rw [HR.out.1, HR.out.2.1, HR.out.2.2]; rfl, rfl⟩
  · rw [hsh] at K72
    obtain ⟨h1, h2⟩ := shaped_rows hsh hs.len
    have K73 := Lib.hid (f73_any A n c n b w hs h1 (by omega))
    have HR : Hid (∀ z, clB b = z → chR b = (if z = true then clR b else 0) ∧ chC b = (if z = true then clC b else 0) ∧ chE b = if z = true then 0 else 10) := fun z hz => by
      unfold chR chC chE; rw [hsh]; subst hz
      cases h : clB b
      · obtain ⟨a, b, _⟩ := cl_none (clB_false.1 h)
        exact ⟨a, b, rfl⟩
      · exact ⟨rfl, rfl, rfl⟩
    generalize clR b = x at *
    generalize clC b = y at *
    cases hcl : clB b
    all_goals
      rw [hcl] at K73
      obtain ⟨r1, r2, r3⟩ := HR.out _ hcl
      have H1 := Lib.hid r1
      have H2 := Lib.hid r2
      have H3 := Lib.hid r3
      clear hs hsh r1 r2 r3 h1 hcl
      go_enter Tryd.func26, Tryd.ntmps26
      go_wp2_with fail
      refine K72.out.mono ?_
      rintro e w1 ⟨rfl, rfl⟩
      go_wp2_with fail
      refine K73.out.mono ?_
      rintro e w2 ⟨rfl, rfl⟩
      go_wp2
      go_ret3
      exact ⟨by rw [H1.out, H2.out, H3.out]; rfl, rfl⟩
set_option maxHeartbeats 1000000 in
/-- bed.valid -/
theorem f53_any : Calls Tryd.prog 53 #[.slice A n c] w fun e w' => e = .returned (.bool (bedB b)) ∧ Below w.heap.size w w' := by
  have K70 := Lib.hid (f70_any A n c b w hs)
  cases hsh : shapedB b
  · rw [hsh] at K70
    have HR : Hid (bedB b = false) := by unfold bedB; rw [hsh]; rfl
    clear hs hsh
    go_enter Tryd.func53, Tryd.ntmps53
    go_wp2_with fail
    refine K70.out.mono ?_
    rintro e w1 ⟨rfl, hb⟩
    have HB := Lib.hid hb
    clear hb
    go_wp2
    go_ret
    exact ⟨ret_bool HR.out.symm, HB.out⟩
  · rw [hsh] at K70
    obtain ⟨h1, h2⟩ := shaped_rows hsh hs.len
    have K71 : Hid (∀ W, Below w.heap.size w W → Calls Tryd.prog 71 #[.slice A n c] W fun e w' => e = .returned (.tuple #[.int .i64 (clR b), .int .i64 (clC b), .bool (clB b)]) ∧ Below W.heap.size W w') := fun W hb => f71_any A n c n b W (hs.below hb) h1 (by omega)
    have HR : Hid (bedB b = !clB b) := by unfold bedB; rw [hsh]; rfl
    generalize clR b = x at *
    generalize clC b = y at *
    generalize clB b = z at *
    clear hs hsh h1
    go_enter Tryd.func53, Tryd.ntmps53
    go_wp2_with fail
    refine K70.out.mono ?_
    rintro e w1 ⟨rfl, hb⟩
    have HB := Lib.hid hb
    clear hb
    go_wp2_with fail
    refine (K71.out _ HB.out).mono ?_
    rintro e w2 ⟨rfl, hb⟩
    have HB := Lib.hid (below_step HB.out hb)
    clear hb
    go_wp2
    go_ret
    exact ⟨ret_bool HR.out.symm, HB.out⟩
set_option maxHeartbeats 1000000 in
/-- dibberref01.Bed -/
theorem f37_any : Calls Tryd.prog 37 #[.slice A n c] w fun e w' => e = .returned (.bool (bedB b)) ∧ w = w' := by
  have K72 := Lib.hid (f72_any A n c b w hs)
  cases hsh : shapedB b
  · rw [hsh] at K72
    have HR : Hid (bedB b = false) := by unfold bedB; rw [hsh]; rfl
    clear hs hsh
    go_enter Tryd.func37, Tryd.ntmps37
    go_wp2_with fail
    refine K72.out.mono ?_
    rintro e w1 ⟨rfl, rfl⟩
    go_wp2
    go_ret
    exact ⟨ret_bool HR.out.symm, rfl⟩
  · rw [hsh] at K72
    obtain ⟨h1, h2⟩ := shaped_rows hsh hs.len
    have K73 := Lib.hid (f73_any A n c n b w hs h1 (by omega))
    have HR : Hid (bedB b = !clB b) := by unfold bedB; rw [hsh]; rfl
    generalize clR b = x at *
    generalize clC b = y at *
    generalize clB b = z at *
    clear hs hsh h1
    go_enter Tryd.func37, Tryd.ntmps37
    go_wp2_with fail
    refine K72.out.mono ?_
    rintro e w1 ⟨rfl, rfl⟩
    go_wp2_with fail
    refine K73.out.mono ?_
    rintro e w2 ⟨rfl, rfl⟩
    go_wp2
    go_ret
    exact ⟨ret_bool HR.out.symm, rfl⟩
end
/-- bed.full$1 -/
theorem f92_any (B : Option Addr) (l : List Int) (d : Nat) (w : World) (hi : Ints w B l.length l) :
    Calls Tryd.prog 92 #[.slice B l.length d] w fun e w' => e = .returned (.bool (hasB (-1) l)) ∧ w = w' := by
  have K := Lib.hid (f93_any B l.length d l (-1) w hi)
  have hl := hi.small
  generalize hasB (-1) l = z at *
  generalize l.length = m at *
  clear hi
  go_enter Tryd.func92, Tryd.ntmps92
  go_wp2_with fail
  refine K.out.mono ?_
  rintro e w' ⟨rfl, rfl⟩
  go_wp2
  go_ret
  exact ⟨rfl, rfl⟩
theorem enter92 (args : Array Value) (w : World) : (callFunc 92 args).run Tryd.prog w = .ok (.enter 92 args) w := by simp [go_sem]
section
variable (A : Option Addr) (n c : Nat) (b : List (List Int)) (w : World) (hs : Beds w A n c b)
include hs
set_option maxHeartbeats 1000000 in
/-- bed.full -/
theorem f60_any : Calls Tryd.prog 60 #[.slice A n c] w fun e w' => e = .returned (.bool (fullB b)) ∧ Below w.heap.size w w' := by
  have K53 := Lib.hid (f53_any A n c b w hs)
  have K91 : Hid (∀ W, Below w.heap.size w W → Calls Tryd.prog 91 #[.slice A n c, .func (.func 92) #[] #[]] W fun e w' => e = .returned (.bool (b.any (hasB (-1)))) ∧ ∃ q, w' = W.drewN q) := fun W hb => f91_any A n c b 92 #[] (hasB (-1)) W (hs.below hb) enter92 (fun k hk B d x hi => (f92_any B _ d (W.drewN x) (hi.drewN x)).mono fun e w' h => ⟨h.1, x, h.2.symm⟩)
  cases hb : bedB b
  · rw [hb] at K53
    have HR : Hid (fullB b = false) := by unfold fullB; rw [hb]; rfl
    clear hs hb K91
    go_enter Tryd.func60, Tryd.ntmps60
    go_wp2_with fail
    refine K53.out.mono ?_
    rintro e w1 ⟨rfl, hb⟩
    have HB := Lib.hid hb
    clear hb
    go_wp2
    go_ret
    exact ⟨ret_bool HR.out.symm, HB.out⟩
  · rw [hb] at K53
    have HR : Hid (fullB b = !b.any (hasB (-1))) := by unfold fullB; rw [hb]; rfl
    generalize b.any (hasB (-1)) = z at *
    clear hs hb
    go_enter Tryd.func60, Tryd.ntmps60
    go_wp2_with fail
    refine K53.out.mono ?_
    rintro e w1 ⟨rfl, hb⟩
    have HB := Lib.hid hb
    clear hb
    go_wp2_with fail
    refine (K91.out _ HB.out).mono ?_
    rintro e w2 ⟨rfl, q, rfl⟩
    have HB := Lib.hid (below_drewN HB.out q)
    go_wp2
    go_ret
    exact ⟨ret_bool HR.out.symm, HB.out⟩
set_option maxRecDepth 100000 in
set_option maxHeartbeats 1000000 in
/-- dibberref01.Full -/
theorem f21_any : Calls Tryd.prog 21 #[.slice A n c] w fun e w' => e = .returned (.bool (fullB b)) ∧ w = w' := by
  have K37 := Lib.hid (f37_any A n c b w hs)
  have hl := hs.small
  have HS := Lib.hid hs
  have HL := Lib.hid hs.len
  cases hb : bedB b
  · rw [hb] at K37
    have HR : Hid (fullB b = false) := by unfold fullB; rw [hb]; rfl
    clear hs hb
    go_enter Tryd.func21, Tryd.ntmps21
    go_wp2_with fail
    refine K37.out.mono ?_
    rintro e w1 ⟨rfl, rfl⟩
    go_wp2
    go_ret
    exact ⟨ret_bool HR.out.symm, rfl⟩
  · rw [hb] at K37
    obtain ⟨h1, h2, h3⟩ := bedB_iff.1 hb
    have h3 : IsBed n b := by rw [← hs.len]; exact h3
    have HB3 := Lib.hid h3
    have HROW : Hid (∀ i, i < n → (b.getD i []).length = n) := h3.shape.2
    have HNO : Hid (∀ r k, r < n → k < n → gAt b r k < 0 → fullB b = false) := fun r k hr hk h => by
      cases hf : fullB b
      · rfl
      · obtain ⟨_, _, h4⟩ := fullB_iff.1 hf
        have := h4.lo r k (by rw [HL.out]; exact hr) (by rw [HL.out]; exact hk)
        omega
    have HYES : Hid ((∀ r k, r < n → k < n → 0 ≤ gAt b r k) → fullB b = true) := fun h => by
      refine fullB_iff.2 ⟨h1, h2, ?_⟩
      rw [HL.out]
      exact ⟨h3.shape, fun r c hr hc => by have := h3.lo r c hr hc; have := h r c hr hc; omega, h3.once⟩
    rw [HL.out] at h2
    clear hs hb h1 h3
    go_enter Tryd.func21, Tryd.ntmps21
    go_wp2_with fail
    refine K37.out.mono ?_
    rintro e w1 ⟨rfl, rfl⟩
    go_wp2
    go_loop [3] (fun i => ∃ r : Nat, r ≤ n ∧ i = .int .i64 (r : Int) ∧ Hid (∀ i j, i < r → j < n → 0 ≤ gAt b i j)) (fun i => n - (intOf i).toNat)
    case atStart => exact ⟨0, by omega, rfl, fun i j hi => absurd hi (by omega)⟩
    case round => as_aux_lemma =>
      obtain ⟨r, hr, rfl, hin⟩ := hrel
      by_cases hlr : r < n
      · obtain ⟨g, o, rfl, B, d, hc, hld, _, hi⟩ := HS.out.at_ hlr
        rw [HROW.out r hlr] at hc hi hld
        have HI := Lib.hid hi
        have HIN := Lib.hid hin.out
        have HNO := Lib.hid (fun k hk => HNO.out r k hlr hk)
        have r0 : (0 : Int) ≤ (r : Int) := by omega
        have rn : (r : Int) < (n : Int) := by omega
        clear hi hin
        go_wp2
        go_loop [4] (fun i => ∃ k : Nat, k ≤ n ∧ i = .int .i64 (k : Int) ∧ Hid (∀ j, j < k → 0 ≤ gAt b r j)) (fun i => n - (intOf i).toNat)
        case atStart => exact ⟨0, by omega, rfl, fun j hj => absurd hj (by omega)⟩
        case round => as_aux_lemma =>
          obtain ⟨k, hk, rfl, hin⟩ := hrel
          by_cases hlk : k < n
          · obtain ⟨g2, o2, rfl, hc2⟩ := HI.out.at_ hlk
            have HQ : Hid (gAt b r k < 0 → fullB b = false) := HNO.out k hlk
            have HN : Hid (0 ≤ gAt b r k → ∀ j, j < k + 1 → 0 ≤ gAt b r j) := fun h j hj => by
              rcases Nat.lt_or_ge j k with h1 | h1
              · exact hin.out j h1
              · obtain rfl : j = k := by omega
                exact h
            unfold gAt at HQ HN
            obtain ⟨x, hx⟩ : ∃ x, x = (b.getD r []).getD k 0 := ⟨_, rfl⟩
            rw [← hx] at HQ HN hc2
            clear hin hx
            have k0 : (0 : Int) ≤ (k : Int) := by omega
            have kn : (k : Int) < (n : Int) := by omega
            by_cases hx0 : x < 0
            · have HF := Lib.hid (HQ.out hx0)
              go_wp2
              go_ret
              exact ⟨ret_bool HF.out.symm, rfl⟩
            · have HF := Lib.hid (HN.out (by omega))
              go_wp2
              go_round
              case rel => exact ⟨k + 1, by omega, by go_num, HF.out⟩
              case measure => simp [intOf]; omega
          · obtain rfl : k = n := by omega
            have HQ : Hid (∀ i j, i < r + 1 → j < k → 0 ≤ gAt b i j) := fun i j hi hj => by
              rcases Nat.lt_or_ge i r with h1 | h1
              · exact HIN.out i j h1 hj
              · obtain rfl : i = r := by omega
                exact hin.out j hj
            clear hin
            go_wp2
            go_round
            case rel => exact ⟨r + 1, by omega, by go_num, HQ.out⟩
            case measure => simp [intOf]; omega
      · obtain rfl : r = n := by omega
        have HF := Lib.hid (HYES.out hin.out)
        clear hin
        go_wp2
        go_ret
        exact ⟨ret_bool HF.out.symm, rfl⟩
end
end Go.Proofs.YtiodednhadnekaaDoor
