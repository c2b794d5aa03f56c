/- Plain laws: the bed with rows and columns exchanged, and with rows and crops exchanged. -/
import Derived.Test.YtiodednhadnekaaDoorW36
namespace Go.Proofs.YtiodednhadnekaaDoor

/-- Rows and columns exchanged. -/
def tcL (b : List (List Int)) (n : Nat) : List (List Int) := gridL n fun c r => gAt b r c
/-- Where a row has a crop. -/
def posN (b : List (List Int)) (n p : Nat) (x : Int) : Nat := ((List.range n).find? fun a => gAt b p a == x).getD 0
/-- Rows and crops exchanged. -/
def txL (b : List (List Int)) (n : Nat) : List (List Int) := gridL n fun x r => (posN b n r x : Int)
theorem gAt_gridL {n r c : Nat} (o : Nat → Nat → Int) (hr : r < n) (hc : c < n) : gAt (gridL n o) r c = o r c := by
  unfold gAt; rw [gridL_get o hr, lineM_get o r hc]
theorem posN_is {b : List (List Int)} {n p a : Nat} (hb : IsFull n b) (hp : p < n) (ha : a < n) : posN b n p (gAt b p a) = a := by
  unfold posN
  rw [find_some ha (by simp) fun j hj => ?_]
  · rfl
  · simp only [beq_eq_false_iff_ne]
    exact hb.once.1 p j a hp (by omega) ha (by omega) (hb.lo p j hp (by omega)).1
theorem posN_lt {b : List (List Int)} {n p x : Nat} (hb : IsFull n b) (hp : p < n) (hx : x < n) : posN b n p x < n ∧ gAt b p (posN b n p x) = x := by
  obtain ⟨c, hc, e⟩ := hb.row_has hp x hx
  have := posN_is hb hp hc
  rw [e] at this
  rw [this]
  exact ⟨hc, e⟩
theorem tcL_at {b : List (List Int)} {n r c : Nat} (hr : r < n) (hc : c < n) : gAt (tcL b n) c r = gAt b r c := gAt_gridL _ hc hr
theorem txL_at {b : List (List Int)} {n r x : Nat} (hr : r < n) (hx : x < n) : gAt (txL b n) x r = (posN b n r x : Int) := gAt_gridL _ hx hr
/-- What the loops have laid. -/
def TurnI (n : Nat) (b X Y : List (List Int)) (r c : Nat) : Prop := sqShape n X ∧ sqShape n Y ∧ ∀ p a, p < n → a < n → (p < r ∨ (p = r ∧ a < c)) → gAt X a p = gAt b p a ∧ gAt Y (gAt b p a).toNat p = a
theorem TurnI.zero {n : Nat} {b X Y : List (List Int)} (hX : sqShape n X) (hY : sqShape n Y) : TurnI n b X Y 0 0 := ⟨hX, hY, fun p a _ _ h => by omega⟩
theorem TurnI.row {n : Nat} {b X Y : List (List Int)} {r : Nat} (h : TurnI n b X Y r n) : TurnI n b X Y (r + 1) 0 := ⟨h.1, h.2.1, fun p a hp ha h2 => h.2.2 p a hp ha (by omega)⟩
theorem TurnI.step {n : Nat} {b X Y : List (List Int)} {r c x : Nat} (h : TurnI n b X Y r c) (hb : IsFull n b) (hr : r < n) (hc : c < n) (hx : gAt b r c = x) : TurnI n b (gset X c r (x : Nat)) (gset Y x r (c : Nat)) r (c + 1) := by
  obtain ⟨h1, h2, h3⟩ := h
  have hl := hb.lo r c hr hc
  have hxn : x < n := by omega
  refine ⟨gset_shape h1 _ _ _, gset_shape h2 _ _ _, fun p a hp ha hq => ?_⟩
  rw [gAt_gset h1 hc hr, gAt_gset h2 hxn hr]
  by_cases e : p = r ∧ a = c
  · obtain ⟨rfl, rfl⟩ := e
    rw [if_pos ⟨rfl, rfl⟩, hx, if_pos ⟨by omega, rfl⟩]
    exact ⟨rfl, rfl⟩
  · rw [if_neg fun h => e ⟨h.2, h.1⟩, if_neg fun h => e ⟨h.2, ?_⟩]
    · exact h3 p a hp ha (by omega)
    · obtain ⟨h4, rfl⟩ := h
      rcases Decidable.em (a = c) with h5 | h5
      · exact h5
      · exfalso
        have l2 := hb.lo p a hp ha
        exact hb.once.1 p a c hp ha hc h5 l2.1 (by omega)
theorem TurnI.done {n : Nat} {b X Y : List (List Int)} (h : TurnI n b X Y n 0) (hb : IsFull n b) : X = tcL b n ∧ Y = txL b n := by
  obtain ⟨h1, h2, h3⟩ := h
  refine ⟨grid_ext h1 (gridL_shape _ _) fun a p ha hp => ?_, grid_ext h2 (gridL_shape _ _) fun x p hx hp => ?_⟩
  · rw [(h3 p a hp ha (by omega)).1]; exact (tcL_at hp ha).symm
  · obtain ⟨k1, k2⟩ := posN_lt hb hp hx
    have := (h3 p _ hp k1 (by omega)).2
    rw [k2] at this
    exact this.trans (txL_at hp hx).symm
/-- What Turned returns. -/
def tuX (b : List (List Int)) : List (List Int) := if fullB b = true then tcL b b.length else []
def tuY (b : List (List Int)) : List (List Int) := if fullB b = true then txL b b.length else []
end Go.Proofs.YtiodednhadnekaaDoor
