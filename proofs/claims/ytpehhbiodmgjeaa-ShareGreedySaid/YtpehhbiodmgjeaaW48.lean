/- Words: the cells of a row while it is compacted. -/
import Derived.Test.YtpehhbiodmgjeaaW38
import Derived.Test.YtpehhbiodmgjeaaW39
import Derived.Test.YtpehhbiodmgjeaaBase7
import Derived.Test.YtpehhbiodmgjeaaPlain18
import Derived.Lib.SliceRun
namespace Go.Proofs.Ytpehhbiodmgjeaa
open Go.RowKit
theorem GrG.trans {g : Nat} {a b c : World} (h : a.grownBy b (some g)) (k : b.grownBy c (some g)) : a.grownBy c (some g) :=
  ⟨k.os.trans h.os, k.tape.trans h.tape, k.output.trans h.output, Nat.le_trans h.size k.size, fun i hi hn => (k.block i (Nat.lt_of_lt_of_le hi h.size) hn).trans (h.block i hi hn)⟩
theorem GrG.set (g i : Nat) (w : World) (v : Value) : w.grownBy (w.setCell ⟨g, i, none⟩ v) (some g) :=
  ⟨rfl, rfl, rfl, by simp [World.setCell], fun k hk hn => Below.heap_setCell w ⟨g, i, none⟩ v k fun e => hn (by rw [e])⟩
theorem GrG.sets (g : Nat) : ∀ (us : List Value) (o : Nat) (w : World), w.grownBy (w.setCells g o us) (some g)
  | [], _, w => World.grownBy.refl w _
  | v :: us, o, w => GrG.trans (GrG.set g o w v) (GrG.sets g us (o + 1) _)
theorem GrG.drewN (g : Nat) (w : World) (q : Nat) : w.grownBy (w.drewN q) (some g) := ⟨rfl, rfl, rfl, Nat.le_refl _, fun _ _ _ => rfl⟩
/-- A slice of ints, of one cell's value, that lies beside block g. -/
def LieW (w : World) (g : Nat) (v : Value) (l : List Int) : Prop := ∃ A c, v = .slice A l.length c ∧ l.length ≤ c ∧ (A = none → l.length = 0 ∧ c = 0) ∧ Ints w A l.length l ∧ ∀ a, A = some a → a.block ≠ g ∧ a.block < w.heap.size
theorem LieW.lies {w : World} {g : Nat} {v : Value} {l : List Int} (h : LieW w g v l) : LiesV w g v l := by
  obtain ⟨A, c, h1, _, _, h2, h3⟩ := h
  exact ⟨A, c, h1, h2, h3⟩
theorem LieW.same {w w' : World} {g : Nat} {v : Value} {l : List Int} (h : LieW w g v l) (k : w.grownBy w' (some g)) : LieW w' g v l := by
  obtain ⟨A, c, h1, p1, p2, hi, ha⟩ := h
  refine ⟨A, c, h1, p1, p2, ⟨hi.1, hi.2.1, fun hp => ?_⟩, fun a e2 => ⟨(ha a e2).1, Nat.lt_of_lt_of_le (ha a e2).2 k.size⟩⟩
  obtain ⟨b, off, e2, h2⟩ := hi.2.2 hp
  have h3 := ha _ e2
  exact ⟨b, off, e2, fun j hj => (k.cell_far ⟨b, off + j, none⟩ h3.2 (fun e => h3.1 (by injection e))).trans (h2 j hj)⟩
theorem cell_set_self {w : World} {g i : Nat} {u v : Value} (h : w.cell? ⟨g, i, none⟩ = some u) : (w.setCell ⟨g, i, none⟩ v).cell? ⟨g, i, none⟩ = some v := by
  have := World.cell?_setCells_in g [v] i w (fun j hj => by
    obtain rfl : j = 0 := by simpa using hj
    rw [Nat.add_zero, h]; rfl) 0 (by simp)
  simpa [World.setCells] using this
theorem cell_set_other {w : World} {g i j : Nat} {v : Value} (h : i ≠ j) : (w.setCell ⟨g, i, none⟩ v).cell? ⟨g, j, none⟩ = w.cell? ⟨g, j, none⟩ := by
  have := World.cell?_setCells_out g [v] i w ⟨g, j, none⟩ (fun _ _ => by simp; omega)
  simpa [World.setCells] using this
/-- The row while it is compacted: V is done, from lo on it is as it was. -/
structure CmI (R : Value → List Int → Prop) (w : World) (g m : Nat) (vs : List Value) (lo : Nat) (V : List Value) (K : List (List Int)) (wr : World) : Prop where
  grown : w.grownBy wr (some g)
  len : V.length = K.length
  done : ∀ i, i < V.length → wr.cell? ⟨g, i, none⟩ = some (V.getD i (.int .i64 0))
  rows : ∀ i, i < V.length → R (V.getD i (.int .i64 0)) (K.getD i [])
  sub : V.Sublist (vs.take (lo + 1))
  rest : ∀ i, lo ≤ i → i < m → wr.cell? ⟨g, i, none⟩ = some (vs.getD i (.int .i64 0))
  all : ∀ i, i < m → (wr.cell? ⟨g, i, none⟩).isSome = true
  froz : ∀ i, i < m → wr.frozen? ⟨g, i, none⟩ = false
section
variable {R : Value → List Int → Prop} {w wr : World} {g m lo : Nat} {vs V : List Value} {K : List (List Int)}
theorem CmI.skip (h : CmI R w g m vs lo V K wr) {lo' : Nat} (hl : lo ≤ lo') : CmI R w g m vs lo' V K wr :=
  ⟨h.grown, h.len, h.done, h.rows, h.sub.trans (by
    have e : vs.take (lo + 1) = (vs.take (lo' + 1)).take (lo + 1) := by rw [List.take_take, Nat.min_eq_left (by omega)]
    rw [e]
    exact List.take_sublist _ _), fun i h1 h2 => h.rest i (by omega) h2, h.all, h.froz⟩
theorem CmI.drewN (h : CmI R w g m vs lo V K wr) (q : Nat) : CmI R w g m vs lo V K (wr.drewN q) :=
  ⟨GrG.trans h.grown (GrG.drewN g wr q), h.len, h.done, h.rows, h.sub, h.rest, h.all, h.froz⟩
theorem getD_snoc_lt {α : Type} {l : List α} {x d : α} {i : Nat} (h : i < l.length) : (l ++ [x]).getD i d = l.getD i d := by
  simp [List.getD_eq_getElem?_getD, List.getElem?_append_left h]
theorem getD_snoc_eq {α : Type} (l : List α) (x d : α) : (l ++ [x]).getD l.length d = x := by simp [List.getD_eq_getElem?_getD]
theorem CmI.put (h : CmI R w g m vs lo V K wr) {v : Value} {l : List Int} (hv : R v l) (he : vs[lo + 1]? = some v) (hV : V.length < lo + 1) (hm : V.length < m) : CmI R w g m vs (lo + 1) (V ++ [v]) (K ++ [l]) (wr.setCell ⟨g, V.length, none⟩ v) := by
  obtain ⟨u, hu⟩ := Option.isSome_iff_exists.1 (h.all V.length hm)
  refine ⟨GrG.trans h.grown (GrG.set g _ wr v), by simp [h.len], fun i hi => ?_, fun i hi => ?_, ?_, fun i h1 h2 => ?_, fun i hi => ?_, fun i hi => ?_⟩
  · rcases Nat.lt_or_ge i V.length with h1 | h1
    · rw [cell_set_other (by omega), getD_snoc_lt h1]
      exact h.done i h1
    · have hi : i = V.length := by simp at hi; omega
      subst hi
      rw [getD_snoc_eq]
      exact cell_set_self hu
  · rcases Nat.lt_or_ge i V.length with h1 | h1
    · rw [getD_snoc_lt h1, getD_snoc_lt (by rw [← h.len]; exact h1)]
      exact h.rows i h1
    · have hi : i = V.length := by simp at hi; omega
      subst hi
      rw [getD_snoc_eq, h.len, getD_snoc_eq]
      exact hv
  · have hlt : lo + 1 < vs.length := by
      rcases Nat.lt_or_ge (lo + 1) vs.length with h1 | h1
      · exact h1
      · rw [List.getElem?_eq_none h1] at he; cases he
    have e : vs.take (lo + 1 + 1) = vs.take (lo + 1) ++ [v] := by
      rw [List.take_succ_eq_append_getElem hlt]
      rw [List.getElem?_eq_getElem hlt] at he
      rw [Option.some.inj he]
    rw [e]
    exact h.sub.append (List.Sublist.refl _)
  · rw [cell_set_other (by omega)]
    exact h.rest i (by omega) h2
  · by_cases e : V.length = i
    · subst e; rw [cell_set_self hu]; rfl
    · rw [cell_set_other e]; exact h.all i hi
  · rw [World.frozen?_setCell]; exact h.froz i hi
/-- Behind it the cells are cleared. -/
theorem CmI.clear (h : CmI R w g m vs lo V K wr) (us : List Value) {o : Nat} (ho : V.length ≤ o) : (∀ i, i < V.length → (wr.setCells g o us).cell? ⟨g, i, none⟩ = some (V.getD i (.int .i64 0))) ∧ w.grownBy (wr.setCells g o us) (some g) :=
  ⟨fun i hi => by
    rw [World.cell?_setCells_out g us o wr ⟨g, i, none⟩ (fun _ _ => by simp; omega)]
    exact h.done i hi, GrG.trans h.grown (GrG.sets g us o wr)⟩
end
theorem beds_of_cells {w w' : World} {g cap : Nat} {V : List Value} {K : List (List Int)} (hlen : V.length = K.length) (hk : K.length ≤ 1000000) (hcap : K.length ≤ cap) (hc : ∀ i, i < V.length → w'.cell? ⟨g, i, none⟩ = some (V.getD i (.int .i64 0))) (hr : ∀ i, i < V.length → LieW w g (V.getD i (.int .i64 0)) (K.getD i [])) (hg : w.grownBy w' (some g)) : Beds w' (some ⟨g, 0, none⟩) K.length cap K :=
  ⟨rfl, hk, hcap, fun h => (by cases h), fun _ => ⟨g, 0, rfl, fun j hj => by
    obtain ⟨A, c, e, h1, h2, h3, _⟩ := (hr j (by omega)).same hg
    refine ⟨A, c, ?_, h1, h2, h3⟩
    rw [Nat.zero_add, hc j (by omega), e]⟩⟩
theorem enter80 (args : Array Value) (w : World) : (callFunc 80 args).run Try.prog w = .ok (.enter 80 args) w := by simp [go_sem]
end Go.Proofs.Ytpehhbiodmgjeaa
