/- Walks: gcd, Cyclic. -/
import Derived.Test.YtiodednhadnekaaDoorW13
namespace Go.Proofs.YtiodednhadnekaaDoor
open Go.RowKit Go.Deep
attribute [local go_sem ↓] Go.wp_at_zero Go.wp_at_succ

set_option maxHeartbeats 1000000 in
/-- bed.gcd -/
theorem f83_any (a b : Nat) (w : World) (ha : a ≤ 100000) (hb : b ≤ 100000) :
    Calls Tryd.prog 83 #[.int .i64 (a : Int), .int .i64 (b : Int)] w fun e w' => e = .returned (.int .i64 (Nat.gcd a b : Int)) ∧ ∃ q, w' = w.drewN q := by
  have HG : Hid (Nat.gcd a b = Nat.gcd a b) := rfl
  go_enter Tryd.func83, Tryd.ntmps83
  go_wp2
  go_loopw [0, 1] (fun x y wr => ∃ s t : Nat, x = .int .i64 (s : Int) ∧ y = .int .i64 (t : Int) ∧ s ≤ 100000 ∧ t ≤ 100000 ∧ Hid (Nat.gcd s t = Nat.gcd a b) ∧ ∃ q, wr = w.drewN q) (fun _ y _ => (intOf y).toNat)
  case atStart => exact ⟨a, b, rfl, rfl, ha, hb, rfl, 0, rfl⟩
  case round => as_aux_lemma =>
    obtain ⟨s, t, rfl, rfl, hs, ht, hg, q, rfl⟩ := hrel
    by_cases h0 : 0 < t
    · have hq : ((t : Int) != 0) = true := by simp; omega
      have hm : (s : Int).tmod (t : Int) = ((s % t : Nat) : Int) := by rw [Int.tmod_eq_emod_of_nonneg (by omega)]; simp
      have hm2 : (s : Int) % (t : Int) = ((s % t : Nat) : Int) := by simp
      have hl := Nat.mod_lt s h0
      have HN : Hid (Nat.gcd t (s % t) = Nat.gcd a b) := by rw [← hg.out, Nat.gcd_comm s t, Nat.gcd_rec t s, Nat.gcd_comm]; rfl
      generalize s % t = z at *
      clear hg
      go_wp2
      go_quiet (fail)
      go_wp2
      go_roundw
      case rel => exact ⟨t, z, rfl, rfl, by omega, by omega, HN.out, by first | exact ⟨_, rfl⟩ | exact ⟨_, World.drewN_drewN _ _ _⟩⟩
      case measure => simp [intOf]; omega
    · obtain rfl : t = 0 := by omega
      have HN : Hid (s = Nat.gcd a b) := by rw [← hg.out, Nat.gcd_zero_right]; rfl
      clear hg
      go_wp2
      go_ret
      exact ⟨ret_int (by rw [← HN.out]), _, rfl⟩
set_option maxHeartbeats 1000000 in
/-- dibberref01.Gcd -/
theorem f39_any (a b : Nat) (w : World) (ha : a ≤ 100000) (hb : b ≤ 100000) :
    Calls Tryd.prog 39 #[.int .i64 (a : Int), .int .i64 (b : Int)] w fun e w' => e = .returned (.int .i64 (Nat.gcd a b : Int)) ∧ ∃ q, w' = w.drewN q := by
  go_enter Tryd.func39, Tryd.ntmps39
  go_wp2
  go_loopw [0, 1] (fun x y wr => ∃ s t : Nat, x = .int .i64 (s : Int) ∧ y = .int .i64 (t : Int) ∧ s ≤ 100000 ∧ t ≤ 100000 ∧ Hid (Nat.gcd s t = Nat.gcd a b) ∧ ∃ q, wr = w.drewN q) (fun _ y _ => (intOf y).toNat)
  case atStart => exact ⟨a, b, rfl, rfl, ha, hb, rfl, 0, rfl⟩
  case round => as_aux_lemma =>
    obtain ⟨s, t, rfl, rfl, hs, ht, hg, q, rfl⟩ := hrel
    by_cases h0 : 0 < t
    · have hq : ((t : Int) != 0) = true := by simp; omega
      have hm : (s : Int).tmod (t : Int) = ((s % t : Nat) : Int) := by rw [Int.tmod_eq_emod_of_nonneg (by omega)]; simp
      have hm2 : (s : Int) % (t : Int) = ((s % t : Nat) : Int) := by simp
      have hl := Nat.mod_lt s h0
      have HN : Hid (Nat.gcd t (s % t) = Nat.gcd a b) := by rw [← hg.out, Nat.gcd_comm s t, Nat.gcd_rec t s, Nat.gcd_comm]; rfl
      generalize s % t = z at *
      clear hg
      go_wp2
      go_quiet (fail)
      go_wp2
      go_roundw
      case rel => exact ⟨t, z, rfl, rfl, by omega, by omega, HN.out, by first | exact ⟨_, rfl⟩ | exact ⟨_, World.drewN_drewN _ _ _⟩⟩
      case measure => simp [intOf]; omega
    · obtain rfl : t = 0 := by omega
      have HN : Hid (s = Nat.gcd a b) := by rw [← hg.out, Nat.gcd_zero_right]; rfl
      clear hg
      go_wp2
      go_ret
      exact ⟨ret_int (by rw [← HN.out]), _, rfl⟩
/-- What an append to a row of ints leaves, and where the row lies. -/
theorem step_pushI {w : World} {ops : Array Oper} {o : Oper} {a : Act} {K : Act → World → Prop} {Q : Exit → Act → World → Prop} {E : Prop} (hgd : o.guard = none) (s x : Operand)
    (ho : o.op = .call { callee := .builtin .append, args := #[s, x], argTypes := #[29, 29] })
    (base : Nat) (v : Value) (xs : List Int) (hs : a.eval s = v) (hrow : Row w base v xs) (g c : Nat) (y : Int) (hx : a.eval x = .slice (some ⟨g, 0, none⟩) 1 c)
    (hc : w.cell? ⟨g, 0, none⟩ = some (.int .i64 y)) (hl : xs.length ≤ 1000000) (hb : base ≤ w.heap.size)
    (h : ∀ b' c' w', Row w' base (.slice (some ⟨b', 0, none⟩) (xs.length + 1) c') (xs ++ [y]) → w.grownBy w' v.ownBlock → (v.ownBlock = some b' ∨ b' = w.heap.size) → K (a.put o.dst (.slice (some ⟨b', 0, none⟩) (xs.length + 1) c')) w') : if Region.wanted o (yielded ops a.tmps) = true then Oper.wp Tryd.prog o a w K Q else E := by
  have hw : Region.wanted o (yielded ops a.tmps) = true := by simp [Region.wanted, hgd]
  rw [if_pos hw]
  obtain ⟨i0, hi, hz0, hz1, hz2⟩ := info_parts (show (Tryd.prog.info? 3).map (fun i => (i.zero, i.size, i.bytes)) = some (some (.int .i64 0), 1, 8) from by kernel_rfl)
  refine wp_append_lies w s x 29 ho base 3 i0 (.int .i64 0) 1 8 Tryd.underlying29 hi hz0 hz1 hz2 rfl (by decide) v xs.length (xs.map (Value.int .i64)) hs hrow ⟨g, 0, none⟩ 1 c [.int .i64 y] hx rfl ?_ ?_ (by omega) ?_ ?_ hb _ rfl ?_
  · intro j u hj
    match j, hj with
    | 0, hj => simp at hj; subst hj; simpa [Addr.add] using hc
  · intro u hu; simp at hu; subst hu; rfl
  · unfold maxLen; omega
  · omega
  · intro g' cap w' h1 h2 h3 _
    exact h _ _ w' (by unfold Row; simpa using h1) h2 h3
/-- The row r of a cyclic bed, as far as it is laid. -/
def cycR (n s r c : Nat) : List Int := (List.range c).map fun k => (((r * s + k) % n : Nat) : Int)
def cycL (n s : Nat) : List (List Int) := (List.range n).map fun r => cycR n s r n
theorem cycR_len (n s r c : Nat) : (cycR n s r c).length = c := by simp [cycR]
theorem cycR_succ (n s r c : Nat) : cycR n s r c ++ [(((r * s + c) % n : Nat) : Int)] = cycR n s r (c + 1) := by simp [cycR, List.range_succ]
theorem cycL_get {n s r : Nat} (h : r < n) : (cycL n s).getD r [] = cycR n s r n := by simp [cycL, List.getD_eq_getElem?_getD, h]
/-- Rows that grow, in a block of slices. -/
def Grows (w : World) (base g n : Nat) (f : Nat → List Int) : Prop := ∃ vs, OwnV w g vs ∧ vs.length = n ∧ (∀ (j : Nat) (v : Value), vs[j]? = some v → Row w base v (f j)) ∧ ∀ (i j : Nat) (u v : Value), i ≠ j → vs[i]? = some u → vs[j]? = some v → Apart u v
theorem Row.setV {w : World} {g base : Nat} {vs : List Value} {v : Value} {xs : List Int} (h : Row w base v xs) (hv : OwnV w g vs) (j : Nat) (u : Value) : Row (w.setCell ⟨g, j, none⟩ u) base v xs :=
  World.ownsRow.kept h (grown_setC w ⟨g, j, none⟩ u) (by
    rcases h.2 with ⟨e, hn⟩ | ⟨g', cap, cur, e, hb, hh, _⟩
    · left; rw [e]; rfl
    · right
      rw [e]
      intro he
      have hg : g' = g := by simp [Value.ownBlock] at he; omega
      subst hg
      have := hv.1
      rw [hh] at this
      injection this with this
      injection this with _ this
      exact absurd this (by decide))
theorem Grows.at_ {w : World} {base g n r : Nat} {f : Nat → List Int} (h : Grows w base g n f) (hr : r < n) : ∃ B m c, w.cell? ⟨g, r, none⟩ = some (.slice B m c) ∧ Row w base (.slice B m c) (f r) := by
  obtain ⟨vs, h1, h2, h3, _⟩ := h
  have hl : r < vs.length := by omega
  obtain ⟨B, m, c, e⟩ := h1.2 _ (List.getElem_mem hl)
  refine ⟨B, m, c, ?_, h3 r _ ?_⟩
  · rw [h1.cell, List.getElem?_eq_getElem hl, e]
  · rw [List.getElem?_eq_getElem hl, e]
theorem Grows.push {w w1 w' : World} {base g n r b' c' : Nat} {f : Nat → List Int} {B : Option Addr} {m c : Nat} {xs : List Int} (h : Grows w base g n f) (hr : r < n) (hc : w.cell? ⟨g, r, none⟩ = some (.slice B m c)) (hb : Below w.heap.size w w1) (hz : w.heap.size ≤ w1.heap.size) (hg : w1.grownBy w' (Value.ownBlock (.slice B m c))) (hrow : Row w' base (.slice (some ⟨b', 0, none⟩) xs.length c') xs) (hbl : Value.ownBlock (.slice B m c) = some b' ∨ b' = w1.heap.size) :
    Grows (w'.setCell ⟨g, r, none⟩ (.slice (some ⟨b', 0, none⟩) xs.length c')) base g n (fun j => if j = r then xs else f j) := by
  obtain ⟨vs, h1, h2, h3, h4⟩ := h
  have hl : r < vs.length := by omega
  have hvr : vs[r]? = some (.slice B m c) := by rw [← h1.cell]; exact hc
  have hne : some g ≠ Value.ownBlock (.slice B m c) := by
    have hro := h3 r _ hvr
    rcases hro.2 with ⟨e, hn⟩ | ⟨g', cap, cur, e, hb', hh, _⟩
    · rw [e]; simp [Value.ownBlock]
    · rw [e]
      intro he
      have hg' : g' = g := by simp [Value.ownBlock] at he; omega
      subst hg'
      have := h1.1
      rw [hh] at this
      injection this with this
      injection this with _ this
      exact absurd this (by decide)
  have h1' : OwnV w' g vs := ⟨(hg.block g (Nat.lt_of_lt_of_le h1.lt hz) hne).trans (h1.below hb).1, h1.2⟩
  refine ⟨vs.set r (.slice (some ⟨b', 0, none⟩) xs.length c'), h1'.set_ r ⟨_, _, _, rfl⟩, by rw [List.length_set]; exact h2, fun j v hv => ?_, fun i j u v hij hu hv => ?_⟩
  · by_cases e : j = r
    · subst e
      rw [List.getElem?_set_self hl] at hv
      injection hv with hv
      subst hv
      dsimp only
      rw [if_pos rfl]
      exact hrow.setV h1' _ _
    · rw [List.getElem?_set_ne (fun h => e h.symm)] at hv
      dsimp only
      rw [if_neg e]
      have ha := h4 j r v _ e hv hvr
      refine Row.setV (World.ownsRow.kept ((h3 j v hv).below hb) hg ?_) h1' _ _
      cases hb' : v.ownBlock with
      | none => exact .inl rfl
      | some b2 => exact .inr (fun e2 => ha b2 hb' e2.symm)
  · have key : ∀ k v, k ≠ r → vs[k]? = some v → ∀ b2, v.ownBlock = some b2 → b2 ≠ b' := fun k v0 hk hv0 b2 hb2 e => by
      rw [e] at hb2
      rcases hbl with hbl | hbl
      · exact h4 k r v0 _ hk hv0 hvr b' hb2 hbl
      · have := (World.ownsRow.lt ((h3 k v0 hv0).below hb) b' hb2).2
        omega
    by_cases e : i = r
    · subst e
      rw [List.getElem?_set_self hl] at hu
      injection hu with hu
      subst hu
      rw [List.getElem?_set_ne hij] at hv
      intro b2 hb2 hb3
      have : b' = b2 := by simpa [Value.ownBlock] using hb2
      exact key j v (fun h => hij h.symm) hv b2 hb3 this.symm
    · rw [List.getElem?_set_ne (fun h => e h.symm)] at hu
      by_cases e2 : j = r
      · subst e2
        rw [List.getElem?_set_self hl] at hv
        injection hv with hv
        subst hv
        intro b2 hb2 hb3
        have : b' = b2 := by simpa [Value.ownBlock] using hb3
        exact key i u e hu b2 hb2 this.symm
      · rw [List.getElem?_set_ne (fun h => e2 h.symm)] at hv
        exact h4 i j u v hij hu hv
theorem Grows.made (w : World) (n base : Nat) : Grows (w.alloc (.cells (List.replicate n (Value.slice none 0 0)).toArray 29)) base w.heap.size n (fun _ => []) := by
  refine ⟨_, OwnV.made w n, by simp, fun j v hv => ?_, fun i j u v _ hu _ => ?_⟩
  · have := List.mem_of_getElem? hv
    rw [List.mem_replicate] at this
    rw [this.2]
    exact Row.nil _ _
  · have := List.mem_of_getElem? hu
    rw [List.mem_replicate] at this
    rw [this.2]
    exact Apart.nil _
theorem Grows.congr {w : World} {base g n : Nat} {f f' : Nat → List Int} (h : Grows w base g n f) (he : ∀ j, j < n → f' j = f j) : Grows w base g n f' := by
  obtain ⟨vs, h1, h2, h3, h4⟩ := h
  refine ⟨vs, h1, h2, fun j v hv => ?_, h4⟩
  have hj : j < n := by
    rcases Nat.lt_or_ge j vs.length with h | h
    · omega
    · rw [List.getElem?_eq_none h] at hv; cases hv
  rw [he j hj]
  exact h3 j v hv
theorem Grows.bedsN {w : World} {base g n : Nat} {f : Nat → List Int} {b : List (List Int)} (h : Grows w base g n f) (hl : b.length = n) (hn : n ≤ 1000) (he : ∀ j, j < n → b.getD j [] = f j) (hs : ∀ j, j < n → (f j).length ≤ 1000) : BedsN w base (some ⟨g, 0, none⟩) n n b := by
  obtain ⟨vs, h1, h2, h3, h4⟩ := h
  subst hl
  refine h1.bedsN h2 (by omega) fun j v hv => ?_
  have hj : j < b.length := by
    rcases Nat.lt_or_ge j vs.length with h | h
    · omega
    · rw [List.getElem?_eq_none h] at hv; cases hv
  rw [he j hj]
  exact (h3 j v hv).rowAt (by have := hs j hj; omega)
end Go.Proofs.YtiodednhadnekaaDoor
