/- Blocks of truth values; what LuckWinnows hands on. -/
import Derived.Test.YtfaenbaaadjbbaaW45
namespace Go.Proofs.Ytfaenbaaadjbbaa
open Go.RowKit

/-- A slice of bytes that reads as a list. -/
def Octets (w : World) (A : Option Addr) (n : Nat) (xs : List Int) : Prop :=
  (0 < n → ∃ b off, A = some ⟨b, off, none⟩ ∧ ∀ j, j < n → w.cell? ⟨b, off + j, none⟩ = some (.int .u8 (xs.getD j 0))) ∧ (∀ j, 0 ≤ xs.getD j 0 ∧ xs.getD j 0 ≤ 255) ∧ n ≤ 9223372036854775807
theorem Octets.below {w w' : World} {A : Option Addr} {n : Nat} {xs : List Int} (h : Octets w A n xs) (hb : Below w.heap.size w w') : Octets w' A n xs :=
  ⟨fun hn => by
    obtain ⟨b, off, e, hc⟩ := h.1 hn
    exact ⟨b, off, e, fun j hj => (hb.cell (lt_of_cell (hc j hj))).trans (hc j hj)⟩, h.2⟩
theorem octets_of_row {w : World} {a : Option Addr} {len cap : Nat} {zs : List Int}
    (h : (a = none ∧ len = 0 ∧ cap = 0 ∧ zs = []) ∨ ∃ x, a = some x ∧ len ≤ cap ∧ cap ≤ maxLen ∧ zs.length = cap ∧ (∀ i, i < zs.length → w.cell? (x.add i) = some (.int .u8 (zs.getD i 0))) ∧ ∀ n ∈ zs, (Lit.int .u8 n).wf = true) :
    Octets w a len zs := by
  have hz : ∀ (zs : List Int), (∀ n ∈ zs, (Lit.int .u8 n).wf = true) → ∀ j, 0 ≤ zs.getD j 0 ∧ zs.getD j 0 ≤ 255 := fun zs h j => by
    by_cases hj : j < zs.length
    · have := bounds_u8 (h _ (List.getElem_mem hj))
      simpa [List.getD_eq_getElem?_getD, hj] using this
    · simp [List.getD_eq_getElem?_getD, hj]
  rcases h with ⟨rfl, rfl, rfl, rfl⟩ | ⟨x, rfl, h1, h2, h3, h4, h5⟩
  · exact ⟨fun h => absurd h (by omega), fun j => by simp, by omega⟩
  · refine ⟨fun hp => ?_, hz zs h5, by unfold maxLen at h2; omega⟩
    obtain ⟨b, off, rfl, hc⟩ := Go.ints_at h4 (by omega)
    exact ⟨b, off, rfl, fun j hj => hc j (by omega)⟩
/-- A row of ints reads as a list. -/
theorem Row.form4 {w : World} {base : Nat} {v : Value} {xs : List Int} (h : Row w base v xs) (hs : xs.length ≤ 1000) : ∃ A c, v = .slice A xs.length c ∧ Ints w A xs.length xs ∧ (A = none → xs.length = 0 ∧ c = 0) := by
  obtain ⟨A, c, e, hi⟩ := h.form
  refine ⟨A, c, e, hi xs.length (Nat.le_refl _) (by omega), fun hA => ?_⟩
  rcases h.2 with ⟨e2, hn⟩ | ⟨g, cap, cur, e2, _⟩
  · rw [e] at e2; injection e2 with _ _ h3; exact ⟨hn, h3⟩
  · rw [e, hA] at e2; injection e2 with h1; cases h1
/-- A block of truth values that the call made, known whole. -/
def OwnB (w : World) (g : Nat) (xs : List Bool) : Prop := w.heap[g]? = some (.cells (xs.map Value.bool).toArray 4 (0, 0))
section
variable {w w' : World} {g : Nat} {xs : List Bool}
theorem OwnB.lt (h : OwnB w g xs) : g < w.heap.size := by
  rcases Nat.lt_or_ge g w.heap.size with hlt | hge
  · exact hlt
  · unfold OwnB at h; rw [Array.getElem?_eq_none hge] at h; cases h
theorem OwnB.cell (h : OwnB w g xs) (j : Nat) (hj : j < xs.length) : w.cell? ⟨g, j, none⟩ = some (.bool (xs.getD j false)) := by
  rw [cell_of_row w g j _ 4 (0, 0) h]
  simp [hj]
theorem OwnB.frozen (h : OwnB w g xs) (j : Nat) : w.frozen? ⟨g, j, none⟩ = false := by
  unfold OwnB at h
  simp [World.frozen?, h]
theorem OwnB.drewN (h : OwnB w g xs) (m : Nat) : OwnB (w.drewN m) g xs := h
theorem OwnB.drew (h : OwnB w g xs) : OwnB w.drew g xs := h
theorem OwnB.alloc (h : OwnB w g xs) (o : Obj) : OwnB (w.alloc o) g xs := (Below.heap_alloc w o g h.lt).trans h
theorem OwnB.below' (h : OwnB w g xs) (hb : Below w.heap.size w w') : OwnB w' g xs := (hb.block g h.lt).trans h
theorem OwnB.set_ (h : OwnB w g xs) (j : Nat) (v : Bool) : OwnB (w.setCell ⟨g, j, none⟩ (.bool v)) g (xs.set j v) := by
  unfold OwnB at h ⊢
  simp [World.setCell, Array.getElem?_modify, h, List.map_set]
end
theorem make_bools (n : Nat) (hn : n ≤ 1000000) (W : World) : (Instr.makeSlice 61 (.int .i64 (n : Int)) (.int .i64 (n : Int))).run Try.prog W =
    .ok (.slice (some ⟨W.heap.size, 0, none⟩) n n) (W.alloc (.cells ((List.replicate n false).map Value.bool).toArray 4)) := by
  obtain ⟨i0, hi, hz0, hz1, hz2⟩ := info_parts (show (Try.prog.info? 4).map (fun i => (i.zero, i.size, i.bytes)) = some (some (.bool false), 1, 1) from by kernel_rfl)
  have hr := run_make (P := Try.prog) W 61 4 i0 (.bool false) Try.underlying61 hi hz0 .i64 .i64 n n (by omega) (by omega) (by rw [hz2]; omega) (by omega)
  have e : madeCells (Value.bool false).cells ((n : Int).toNat * i0.size) = ((List.replicate n false).map Value.bool).toArray := by
    rw [hz1, Nat.mul_one, Int.toNat_natCast]
    apply Array.toList_inj.1
    exact (toList_madeCells_one _ _).trans (by simp)
  exact hr.trans (by rw [e, Int.toNat_natCast])
theorem OwnB.made (w : World) (n : Nat) : OwnB (w.alloc (.cells ((List.replicate n false).map Value.bool).toArray 4)) w.heap.size (List.replicate n false) := heap_alloc_new w _
theorem getB_set (l : List Bool) (i j : Nat) (x : Bool) (h : i < l.length) : (l.set i x).getD j false = if j = i then x else l.getD j false := by
  by_cases hj : j = i
  · subst hj; simp [List.getD_eq_getElem?_getD, h]
  · rw [if_neg hj]; simp [List.getD_eq_getElem?_getD, List.getElem?_set_ne (fun e => hj e.symm)]
theorem falses (n j : Nat) : (List.replicate n false).getD j false = false := by
  by_cases h : j < n
  · simp [List.getD_eq_getElem?_getD, h]
  · simp [List.getD_eq_getElem?_getD, h]
/-- The foretellers given by the first q numbers. -/
def inG (gs : List Int) (n : Nat) : Nat → Nat → Bool
  | 0, _ => false
  | q + 1, f => inG gs n q f || decide ((gs.getD q 0).toNat % n = f)
def cntG (gs : List Int) (n q : Nat) : Nat := sumN (fun f => if inG gs n q f = true then 1 else 0) n
theorem cntG_le (gs : List Int) (n q : Nat) : cntG gs n q ≤ n := by
  unfold cntG
  have := sumN_le (g := fun f => if inG gs n q f = true then 1 else 0) (h := fun _ => 1) (n := n) fun i _ => by split <;> omega
  rw [sumN_const] at this; omega
theorem sumN_upd {g h : Nat → Nat} {n k : Nat} (hk : k < n) (h1 : h k = g k + 1) (h2 : ∀ j, j ≠ k → h j = g j) : sumN h n = sumN g n + 1 := by
  induction n with
  | zero => omega
  | succ n ih =>
    simp only [sumN]
    rcases Nat.lt_or_ge k n with h3 | h3
    · rw [ih h3, h2 n (by omega)]; omega
    · obtain rfl : k = n := by omega
      rw [sumN_congr (g := h) (h := g) fun i hi => h2 i (by omega), h1]; omega
theorem cntG_step {gs : List Int} {n q : Nat} (hn : 0 < n) : cntG gs n (q + 1) = cntG gs n q + if inG gs n q ((gs.getD q 0).toNat % n) = true then 0 else 1 := by
  have hk : (gs.getD q 0).toNat % n < n := Nat.mod_lt _ hn
  by_cases h : inG gs n q ((gs.getD q 0).toNat % n) = true
  · rw [if_pos h]
    unfold cntG
    refine sumN_congr fun f _ => ?_
    have : inG gs n (q + 1) f = inG gs n q f := by
      show (inG gs n q f || decide ((gs.getD q 0).toNat % n = f)) = _
      by_cases hf : (gs.getD q 0).toNat % n = f
      · subst hf; rw [h]; rfl
      · rw [decide_eq_false hf, Bool.or_false]
    rw [this]
  · rw [if_neg h]
    unfold cntG
    refine sumN_upd hk ?_ ?_
    · have : inG gs n (q + 1) ((gs.getD q 0).toNat % n) = true := by
        show (_ || decide _) = true
        rw [decide_eq_true rfl, Bool.or_true]
      rw [if_pos this, if_neg h]
    · intro j hj
      have : inG gs n (q + 1) j = inG gs n q j := by
        show (inG gs n q j || decide ((gs.getD q 0).toNat % n = j)) = _
        rw [decide_eq_false (fun e => hj e.symm), Bool.or_false]
      rw [this]
/-- One of the first of the given foretellers says 1. -/
def hasTo (row : List Int) (G : Nat → Bool) : Nat → Int
  | 0 => 0
  | f + 1 => if G f = true ∧ row.getD f 0 = 1 then 1 else hasTo row G f
theorem hasTo_bit (row : List Int) (G : Nat → Bool) (f : Nat) : hasTo row G f = 0 ∨ hasTo row G f = 1 := by
  induction f with
  | zero => exact .inl rfl
  | succ f ih =>
    simp only [hasTo]
    by_cases h : G f = true ∧ row.getD f 0 = 1
    · rw [if_pos h]; exact .inr rfl
    · rw [if_neg h]; exact ih
theorem hasTo_iff (row : List Int) (G : Nat → Bool) (n : Nat) : hasTo row G n = 1 ↔ ∃ f, f < n ∧ G f = true ∧ row.getD f 0 = 1 := by
  induction n with
  | zero =>
    constructor
    · intro h
      have h2 : (0 : Int) = 1 := h
      omega
    · intro ⟨f, h, _⟩; omega
  | succ n ih =>
    simp only [hasTo]
    by_cases h : G n = true ∧ row.getD n 0 = 1
    · rw [if_pos h]; exact ⟨fun _ => ⟨n, by omega, h⟩, fun _ => rfl⟩
    · rw [if_neg h, ih]
      refine ⟨fun ⟨f, h1, h2⟩ => ⟨f, by omega, h2⟩, fun ⟨f, h1, h2⟩ => ⟨f, ?_, h2⟩⟩
      rcases Nat.lt_or_ge f n with h3 | h3
      · exact h3
      · obtain rfl : f = n := by omega
        exact absurd h2 h
theorem hasTo_cut {row : List Int} {G : Nat → Bool} {t n : Nat} (h1 : t ≤ n) (h2 : row.length ≤ t) : hasTo row G n = hasTo row G t := by
  induction n with
  | zero => obtain rfl : t = 0 := by omega
            rfl
  | succ n ih =>
    rcases Nat.lt_or_ge t (n + 1) with h3 | h3
    · simp only [hasTo]
      have : row.getD n 0 = 0 := by rw [List.getD_eq_getElem?_getD, List.getElem?_eq_none (by omega)]; rfl
      rw [if_neg (fun h4 => by rw [this] at h4; exact absurd h4.2 (by decide))]
      exact ih (by omega)
    · obtain rfl : t = n + 1 := by omega
      rfl
def cameL (said : List (List Int)) (G : Nat → Bool) (n i : Nat) : List Int := (List.range i).map fun j => hasTo (said.getD j []) G n
theorem cameL_len (said : List (List Int)) (G : Nat → Bool) (n i : Nat) : (cameL said G n i).length = i := by simp [cameL]
theorem cameL_succ (said : List (List Int)) (G : Nat → Bool) (n i : Nat) : cameL said G n i ++ [hasTo (said.getD i []) G n] = cameL said G n (i + 1) := by simp [cameL, List.range_succ]
theorem cameL_get {said : List (List Int)} {G : Nat → Bool} {n i j : Nat} (h : j < i) : (cameL said G n i).getD j 0 = hasTo (said.getD j []) G n := by simp [cameL, List.getD_eq_getElem?_getD, h]
/-- What LuckWinnows asks for. -/
theorem winnows_law {said : List (List Int)} {G : Nat → Bool} {n k h r : Nat} (h0 : recErr n said (cameL said G n k) = 0) (hk : said.length = k) (hh : n ≤ 2 ^ h) (hr : r = sumN (fun f => if G f = true then 1 else 0) n) :
    missTo (toldL (winF said (cameL said G n k) n) k) (cameL said G n k) k ≤ 2 + 3 * r * (1 + h) := by
  obtain ⟨N, hN, g1, g2, g3, g4, g5, g6⟩ := recErr_facts h0
  obtain rfl : n = N := by omega
  refine win_law g1 hh (fun j hj => ⟨fun f _ => bit_get (g5 j (by omega)).2 f, bit_get g6 j⟩) (fun j hj => ⟨fun hc => ?_, fun f hf hG hs => ?_⟩) (fun j hj => toldL_get hj) hr
  · rw [cameL_get hj] at hc; exact (hasTo_iff _ _ _).1 hc
  · rw [cameL_get hj]; exact (hasTo_iff _ _ _).2 ⟨f, hf, hG, hs⟩
end Go.Proofs.Ytfaenbaaadjbbaa
