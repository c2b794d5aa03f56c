/- Walks: fences. -/
import Derived.Test.YtmepndnckcpgjaaGreatW10
import Derived.Test.YtmepndnckcpgjaaGreatBase4
namespace Go.Proofs.YtmepndnckcpgjaaGreat
open Go.RowKit
/-- A slice of fences. -/
def Fens (w : World) (A : Option Addr) (n : Nat) (fs : List (Int × Int)) : Prop :=
  fs.length = n ∧ (0 < n → ∃ b off, A = some ⟨b, off, none⟩ ∧ ∀ j, j < n → w.cell? ⟨b, off + j * 2, none⟩ = some (.int .i64 (fs.getD j (0, 0)).1) ∧ w.cell? ⟨b, off + j * 2 + 1, none⟩ = some (.int .i64 (fs.getD j (0, 0)).2))
theorem Fens.len {w : World} {A : Option Addr} {n : Nat} {fs : List (Int × Int)} (h : Fens w A n fs) : fs.length = n := h.1
theorem Fens.at_ {w : World} {A : Option Addr} {n k : Nat} {fs : List (Int × Int)} (h : Fens w A n fs) (hk : k < n) : ∃ b off, A = some ⟨b, off, none⟩ ∧ w.cell? ⟨b, off + k * 2, none⟩ = some (.int .i64 (fs.getD k (0, 0)).1) ∧ w.cell? ⟨b, off + k * 2 + 1, none⟩ = some (.int .i64 (fs.getD k (0, 0)).2) := by
  obtain ⟨b, off, e, hc⟩ := h.2 (by omega)
  exact ⟨b, off, e, hc k hk⟩
theorem Fens.below {w w' : World} {A : Option Addr} {n : Nat} {fs : List (Int × Int)} (h : Fens w A n fs) (hb : Below w.heap.size w w') : Fens w' A n fs :=
  ⟨h.1, fun hn => by
    obtain ⟨b, off, e, hc⟩ := h.2 hn
    exact ⟨b, off, e, fun j hj => ⟨(hb.cell (lt_of_cell (hc j hj).1)).trans (hc j hj).1, (hb.cell (lt_of_cell (hc j hj).2)).trans (hc j hj).2⟩⟩⟩
theorem Fens.nil (w : World) (A : Option Addr) : Fens w A 0 [] := ⟨rfl, fun h => absurd h (by omega)⟩
def fB (n : Int) (f : Int × Int) : Bool := decide (f.1 < 0) || decide (n ≤ f.1) || decide (f.2 < 0) || decide (n ≤ f.2)
set_option maxHeartbeats 1000000 in
/-- fence.of$1 -/
theorem f50_any (a b n : Int) (pn : Nat) (w : World) (hn : w.cell? ⟨pn, 0, none⟩ = some (.int .i64 n)) :
    Calls Tryz.prog 50 #[.agg #[.int .i64 a, .int .i64 b], .pointer (some ⟨pn, 0, none⟩)] w fun e w' => e = .returned (.bool (fB n (a, b))) ∧ Below w.heap.size w w' := by
  have hf : Hid (fB n (a, b) = (decide (a < 0) || decide (n ≤ a) || decide (b < 0) || decide (n ≤ b))) := rfl
  have hb := Lib.hid (below_alloc w (.cells #[.int .i64 a, .int .i64 b] 37))
  have hn2 := (hb.out.cell (lt_of_cell hn)).trans hn
  go_enter Tryz.func50, Tryz.ntmps50
  go_wp2
  all_goals go_ret
  all_goals exact ⟨ret_bool (by first | exact hf.out.symm | (rw [hf.out]; simp [*]; done) | (rw [hf.out]; simp [*]; omega)), hb.out⟩
theorem enter50 (args : Array Value) (w : World) : (callFunc 50 args).run Tryz.prog w = .ok (.enter 50 args) w := by simp [go_sem]
theorem any_hit {p : Int × Int → Bool} {fs : List (Int × Int)} {k : Nat} (hk : k < fs.length) (h : p (fs.getD k (0, 0)) = true) : fs.any p = true := by
  rw [List.any_eq_true]
  exact ⟨fs[k], List.getElem_mem hk, by simpa [List.getD_eq_getElem?_getD, hk] using h⟩
theorem any_miss {p : Int × Int → Bool} {fs : List (Int × Int)} (h : ∀ k, k < fs.length → p (fs.getD k (0, 0)) = false) : fs.any p = false := by
  rw [List.any_eq_false]
  intro x hx
  obtain ⟨k, hk, rfl⟩ := List.getElem_of_mem hx
  have := h k hk
  simpa [List.getD_eq_getElem?_getD, hk] using this
set_option maxRecDepth 100000 in
set_option maxHeartbeats 1000000 in
/-- slices.IndexFunc at fences -/
theorem f75_any (A : Option Addr) (n c : Nat) (fs : List (Int × Int)) (f : FuncId) (cap : Array Value) (p : Int × Int → Bool) (w : World) (hs : Fens w A n fs) (hsm : n ≤ 17592186044415)
    (hf : ∀ (args : Array Value) (w : World), (callFunc f args).run Tryz.prog w = .ok (.enter f args) w)
    (hp : ∀ k W, k < n → Below w.heap.size w W → Calls Tryz.prog f (#[.agg #[.int .i64 (fs.getD k (0, 0)).1, .int .i64 (fs.getD k (0, 0)).2]] ++ cap) W fun e w' => e = .returned (.bool (p (fs.getD k (0, 0)))) ∧ Below W.heap.size W w') :
    Calls Tryz.prog 75 #[.slice A n c, .func (.func f) #[] cap] w fun e w' => (∃ r, e = .returned (.int .i64 r) ∧ decide (0 ≤ r) = fs.any p) ∧ Below w.heap.size w w' := by
  have HP := Lib.hid hp
  have HS := Lib.hid hs
  have HL := Lib.hid hs.len
  clear hp hs
  go_enter Tryz.func75, Tryz.ntmps75
  go_wp2
  go_loopw [8] (fun i wr => ∃ k : Nat, k ≤ n ∧ i = .int .i64 k ∧ Hid (∀ j, j < k → p (fs.getD j (0, 0)) = false) ∧ Hid (Below w.heap.size w wr)) (fun i _ => n - (intOf i).toNat)
  case atStart => exact ⟨0, by omega, rfl, Lib.hid fun j hj => absurd hj (by omega), Lib.hid (Below.refl _ _)⟩
  case round => as_aux_lemma =>
    obtain ⟨k, hk, rfl, HB, HW⟩ := hrel
    by_cases hlt : k < n
    · have hlt2 : (k : Int) < (n : Int) := by omega
      have k0 : (0 : Int) ≤ (k : Int) := by omega
      obtain ⟨b, off, rfl, c1, c2⟩ := (HS.out.below HW.out).at_ hlt
      have HK := Lib.hid (HP.out k wr hlt HW.out)
      have HHIT := Lib.hid (fun h => any_hit (p := p) (fs := fs) (k := k) (by rw [HL.out]; exact hlt) h)
      generalize hfk : fs.getD k (0, 0) = fk at *
      obtain ⟨x, y⟩ := fk
      have HFK := Lib.hid hfk
      clear hfk
      go_wp2_with fail
      refine HK.out.mono ?_
      rintro e w' ⟨rfl, hb⟩
      have HW2 : Hid (Below w.heap.size w w') := Lib.hid (below_step HW.out hb)
      clear hb
      cases hpk : p (x, y)
      · have HQ := Lib.hid hpk
        clear hpk
        go_wp2
        go_roundw
        case rel => exact ⟨k + 1, by omega, by go_num, Lib.hid fun j hj => by
          rcases Nat.lt_or_ge j k with h | h
          · exact HB.out j h
          · obtain rfl : j = k := by omega
            rw [HFK.out]; exact HQ.out, HW2⟩
        case measure => simp [intOf]; omega
      · have HQ := Lib.hid (HHIT.out hpk)
        clear hpk
        go_wp2
        go_ret
        exact ⟨⟨_, rfl, by rw [HQ.out]; simp⟩, HW2.out⟩
    · obtain rfl : k = n := by omega
      have HM := Lib.hid (any_miss (p := p) (fs := fs) (fun j hj => HB.out j (by rw [HL.out] at hj; exact hj)))
      go_wp2
      go_ret
      exact ⟨⟨_, rfl, by rw [HM.out]; rfl⟩, HW.out⟩
/-- slices.ContainsFunc at fences -/
theorem f49f_any (A : Option Addr) (n c : Nat) (fs : List (Int × Int)) (f : FuncId) (cap : Array Value) (p : Int × Int → Bool) (w : World) (hs : Fens w A n fs) (hsm : n ≤ 17592186044415)
    (hf : ∀ (args : Array Value) (w : World), (callFunc f args).run Tryz.prog w = .ok (.enter f args) w)
    (hp : ∀ k W, k < n → Below w.heap.size w W → Calls Tryz.prog f (#[.agg #[.int .i64 (fs.getD k (0, 0)).1, .int .i64 (fs.getD k (0, 0)).2]] ++ cap) W fun e w' => e = .returned (.bool (p (fs.getD k (0, 0)))) ∧ Below W.heap.size W w') :
    Calls Tryz.prog 49 #[.slice A n c, .func (.func f) #[] cap] w fun e w' => e = .returned (.bool (fs.any p)) ∧ Below w.heap.size w w' := by
  have K := Lib.hid (f75_any A n c fs f cap p w hs hsm hf hp)
  clear hp hs hf hsm
  go_enter Tryz.func49, Tryz.ntmps49
  go_wp2_with fail
  refine K.out.mono ?_
  rintro e w' ⟨⟨r, rfl, hr⟩, hb⟩
  have HR := Lib.hid hr
  have HB := Lib.hid hb
  clear hr hb
  go_wp2
  go_ret
  exact ⟨ret_bool HR.out, HB.out⟩
/-- A garden. -/
structure Gar (w : World) (p : Nat) (n : Nat) (A : Option Addr) (m c : Nat) (fs : List (Int × Int)) : Prop where
  cn : w.cell? ⟨p, 0, none⟩ = some (.int .i64 (n : Int))
  cf : w.cell? ⟨p, 1, none⟩ = some (.slice A m c)
  fens : Fens w A m fs
theorem Gar.below {w w' : World} {p n : Nat} {A : Option Addr} {m c : Nat} {fs : List (Int × Int)} (h : Gar w p n A m c fs) (hb : Below w.heap.size w w') : Gar w' p n A m c fs :=
  ⟨(hb.cell (lt_of_cell h.cn)).trans h.cn, (hb.cell (lt_of_cell h.cf)).trans h.cf, h.fens.below hb⟩
/-- what is wrong with a garden. -/
def garE (n : Int) (fs : List (Int × Int)) : Int := if n < 1 ∨ 8 < n then 2 else if 14 < fs.length then 3 else if fs.any (fB n) then 2 else 0
set_option maxHeartbeats 1000000 in
/-- fence.of, refused -/
theorem f31_no (n : Int) (A : Option Addr) (m c : Nat) (fs : List (Int × Int)) (w : World) (hs : m ≤ 14 → Fens w A m fs) (hl : fs.length = m) (hsm : m ≤ 9223372036854775807) (h : garE n fs ≠ 0) :
    Calls Tryz.prog 31 #[.int .i64 n, .slice A m c] w fun e w' => e = .returned (.tuple #[.pointer none, .int .i64 (garE n fs)]) ∧ Below w.heap.size w w' := by
  have hmf : ∀ (fn : Fn) (first cap : Array Value) (w : World), (Instr.makeFunc fn first cap).run Tryz.prog w = .ok (.func fn first cap) w := fun _ _ _ _ => rfl
  have b0 := Lib.hid (below_alloc w (.cells #[.int .i64 n] 3))
  by_cases h1 : n < 1
  · have HE : Hid (garE n fs = 2) := Lib.hid (by unfold garE; rw [if_pos (.inl h1)])
    clear h hs
    go_enter Tryz.func31, Tryz.ntmps31
    go_wp2
    go_ret2
    exact ⟨by rw [HE.out]; rfl, b0.out⟩
  by_cases h2 : 8 < n
  · have HE : Hid (garE n fs = 2) := Lib.hid (by unfold garE; rw [if_pos (.inr h2)])
    clear h hs
    go_enter Tryz.func31, Tryz.ntmps31
    go_wp2
    go_ret2
    exact ⟨by rw [HE.out]; rfl, b0.out⟩
  by_cases h3 : 14 < m
  · have HE : Hid (garE n fs = 3) := Lib.hid (by unfold garE; rw [if_neg (by omega), if_pos (by omega)])
    have h3i : (14 : Int) < (m : Int) := by omega
    clear h hs
    go_enter Tryz.func31, Tryz.ntmps31
    go_wp2
    go_ret2
    exact ⟨by rw [HE.out]; rfl, b0.out⟩
  have e1 : garE n fs = if fs.any (fB n) then 2 else 0 := by unfold garE; rw [if_neg (by omega), if_neg (by omega)]
  have ha : fs.any (fB n) = true := by
    cases hv : fs.any (fB n)
    · rw [e1, hv] at h; exact absurd rfl h
    · rfl
  have HE : Hid (garE n fs = 2) := Lib.hid (by rw [e1, ha]; rfl)
  have hcell : (w.alloc (.cells #[.int .i64 n] 3)).cell? ⟨w.heap.size, 0, none⟩ = some (.int .i64 n) := (cell_new w #[.int .i64 n] 3 0).trans rfl
  have K := Lib.hid (f49f_any A m c fs 50 #[.pointer (some ⟨w.heap.size, 0, none⟩)] (fB n) (w.alloc (.cells #[.int .i64 n] 3)) ((hs (by omega)).below b0.out) (by omega) enter50 (fun k W hk hW => f50_any _ _ n w.heap.size W ((hW.cell (lt_of_cell hcell)).trans hcell)))
  rw [ha] at K
  have h3i : ¬ (14 : Int) < (m : Int) := by omega
  clear h hs e1 ha
  go_enter Tryz.func31, Tryz.ntmps31
  go_wp2_with fail
  refine K.out.mono ?_
  rintro e w' ⟨rfl, hb⟩
  have HB := Lib.hid (below_step b0.out hb)
  clear hb
  go_wp2
  go_ret2
  exact ⟨by rw [HE.out]; rfl, HB.out⟩
set_option maxHeartbeats 1000000 in
/-- fence.of, taken -/
theorem f31_yes (n : Nat) (A : Option Addr) (m c : Nat) (fs : List (Int × Int)) (w : World) (hs : Fens w A m fs) (h : garE n fs = 0) :
    Calls Tryz.prog 31 #[.int .i64 (n : Int), .slice A m c] w fun e w' => ∃ p, e = .returned (.tuple #[.pointer (some ⟨p, 0, none⟩), .int .i64 0]) ∧ Gar w' p n A m c fs ∧ Below w.heap.size w w' ∧ w.heap.size ≤ p := by
  have hmf : ∀ (fn : Fn) (first cap : Array Value) (w : World), (Instr.makeFunc fn first cap).run Tryz.prog w = .ok (.func fn first cap) w := fun _ _ _ _ => rfl
  have b0 := Lib.hid (below_alloc w (.cells #[.int .i64 (n : Int)] 3))
  have hl := hs.len
  have h1 : ¬ (n : Int) < 1 := fun h1 => by unfold garE at h; rw [if_pos (.inl h1)] at h; cases h
  have h2 : ¬ (8 : Int) < (n : Int) := fun h1 => by unfold garE at h; rw [if_pos (.inr h1)] at h; cases h
  have h3 : ¬ 14 < fs.length := fun h3 => by unfold garE at h; rw [if_neg (by omega), if_pos h3] at h; cases h
  have ha : fs.any (fB n) = false := by
    unfold garE at h
    rw [if_neg (by omega), if_neg (by omega)] at h
    cases hv : fs.any (fB n)
    · rfl
    · rw [hv] at h; cases h
  have hcell : (w.alloc (.cells #[.int .i64 (n : Int)] 3)).cell? ⟨w.heap.size, 0, none⟩ = some (.int .i64 (n : Int)) := (cell_new w #[.int .i64 (n : Int)] 3 0).trans rfl
  have K := Lib.hid (f49f_any A m c fs 50 #[.pointer (some ⟨w.heap.size, 0, none⟩)] (fB n) (w.alloc (.cells #[.int .i64 (n : Int)] 3)) (hs.below b0.out) (by omega) enter50 (fun k W hk hW => f50_any _ _ n w.heap.size W ((hW.cell (lt_of_cell hcell)).trans hcell)))
  rw [ha] at K
  have h3i : ¬ (14 : Int) < (m : Int) := by omega
  have HS := Lib.hid hs
  clear h hs ha h3
  go_enter Tryz.func31, Tryz.ntmps31
  go_wp2_with fail
  refine K.out.mono ?_
  rintro e w' ⟨rfl, hb⟩
  have hc2 := (hb.cell (lt_of_cell hcell)).trans hcell
  have HB := Lib.hid (below_step b0.out hb)
  clear hb
  go_wp2
  go_ret2
  have hal := below_alloc w' (.cells #[.int .i64 (n : Int), .slice A m c] 85)
  exact ⟨w'.heap.size, rfl, ⟨(cell_new w' #[.int .i64 (n : Int), .slice A m c] 85 0).trans rfl, (cell_new w' #[.int .i64 (n : Int), .slice A m c] 85 1).trans rfl, (HS.out.below HB.out).below hal⟩, below_step HB.out hal, HB.out.size⟩
set_option maxHeartbeats 1000000 in
/-- (*garden).all -/
theorem f33g_any (p n : Nat) (A : Option Addr) (m c : Nat) (fs : List (Int × Int)) (w : World) (hg : Gar w p n A m c fs) (hm : m ≤ 14) :
    Calls Tryz.prog 33 #[.pointer (some ⟨p, 0, none⟩)] w fun e w' => e = .returned (.int .i64 ((2 ^ m - 1 : Nat) : Int)) ∧ w = w' := by
  obtain ⟨N, hN, hshl⟩ := shl_one m (by omega)
  have hN1 : 1 ≤ N := by rw [hN]; exact Nat.pow_pos (by omega)
  have hN2 : N ≤ 16384 := by rw [hN]; exact Nat.le_trans (Nat.pow_le_pow_right (by omega) hm) (by decide)
  rw [← hN]
  clear hN
  have c1 := hg.cf
  clear hg
  go_enter Tryz.func33, Tryz.ntmps33
  go_wp2
  go_ret
  exact ⟨ret_int (by omega), rfl⟩
end Go.Proofs.YtmepndnckcpgjaaGreat
