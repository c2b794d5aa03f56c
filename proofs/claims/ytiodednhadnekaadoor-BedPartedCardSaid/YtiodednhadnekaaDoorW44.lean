/- The places that are used, in memory. -/
import Derived.Test.YtiodednhadnekaaDoorPlain6
namespace Go.Proofs.YtiodednhadnekaaDoor
open Go.RowKit Go.Deep
attribute [local go_sem ↓] Go.wp_at_zero Go.wp_at_succ

theorem wpList_growI {w : World} {ops : Array Oper} {rest : List Oper} {o : Oper} {a : Act} {Q : Exit → Act → World → Prop} (hwant : Region.wanted o (yielded ops a.tmps) = true) (s x : Operand)
    (ho : o.op = .call { callee := .builtin .append, args := #[s, x], argTypes := #[29, 29] })
    (A : Option Addr) (m : Nat) (l : List Nat) (hs : a.eval s = .slice A m m) (hm : l.length = m) (hn : A = none → m = 0) (hi : Ints w A m (zs l)) (g c : Nat) (y : Nat) (hx : a.eval x = .slice (some ⟨g, 0, none⟩) 1 c)
    (hc : w.cell? ⟨g, 0, none⟩ = some (.int .i64 (y : Int))) (hl : m ≤ 1000000)
    (h : ∀ A' c' w', IntsN (fun _ i => i < w.heap.size) w' A' (l ++ [y]) → A' ≠ none → m + 1 ≤ c' → Below w.heap.size w w' → wpList Tryd.prog ops Q rest (a.put o.dst (.slice A' (m + 1) c')) w') : wpList Tryd.prog ops Q (o :: rest) a w :=
  wpList_step fun _ hK => step_growI hwant s x ho A m l hs hm hn hi g c y hx hc hl (fun A' c' w' h1 h2 h3 h4 => hK _ _ (h A' c' w' h1 h2 h3 h4))
/-- The blocks of the rows of what is used. -/
def OwnU (n : Nat) (gr : Nat → Nat) (i : Nat) : Prop := ∃ r, r < n ∧ i = gr r
structure UsedM (w : World) (gU : Nat) (gr : Nat → Nat) (n : Nat) (U : Nat → Nat → Bool) : Prop where
  hdr : ∀ r, r < n → w.cell? ⟨gU, r, none⟩ = some (.slice (some ⟨gr r, 0, none⟩) n n)
  val : ∀ r c, r < n → c < n → w.cell? ⟨gr r, c, none⟩ = some (.bool (U r c))
  blk : ∀ r, r < n → ∃ cs, w.heap[gr r]? = some (.cells cs 4 (0, 0))
  inj : ∀ r s, r < n → s < n → gr r = gr s → r = s
section
variable {w w' : World} {gU n : Nat} {gr : Nat → Nat} {U : Nat → Nat → Bool}
theorem UsedM.ne (h : UsedM w gU gr n U) {r : Nat} (hr : r < n) : gr r ≠ gU := fun e => by
  have h1 := h.val r 0 hr (by omega)
  have h2 := h.hdr 0 (by omega)
  rw [e, h2] at h1
  cases h1
theorem UsedM.frozen (h : UsedM w gU gr n U) {r : Nat} (hr : r < n) (c : Nat) : w.frozen? ⟨gr r, c, none⟩ = false := by
  obtain ⟨cs, e⟩ := h.blk r hr
  simp [World.frozen?, e]
theorem UsedM.below (h : UsedM w gU gr n U) (hb : Below w.heap.size w w') : UsedM w' gU gr n U :=
  ⟨fun r hr => (hb.cell (lt_of_cell (h.hdr r hr))).trans (h.hdr r hr), fun r c hr hc => (hb.cell (lt_of_cell (h.val r c hr hc))).trans (h.val r c hr hc),
   fun r hr => by
    obtain ⟨cs, e⟩ := h.blk r hr
    exact ⟨cs, (hb.block _ (lt_of_cell (h.val r 0 hr (by omega)))).trans e⟩, h.inj⟩
theorem UsedM.heap {W : World} (h : UsedM w gU gr n U) (e : W.heap = w.heap) : UsedM W gU gr n U :=
  ⟨fun r hr => (World.cell?_of_block (congrArg (fun x => x[gU]?) e)).trans (h.hdr r hr), fun r c hr hc => (World.cell?_of_block (congrArg (fun x => x[gr r]?) e)).trans (h.val r c hr hc), fun r hr => by rw [e]; exact h.blk r hr, h.inj⟩
theorem UsedM.set_ (h : UsedM w gU gr n U) {r c : Nat} (hr : r < n) (hc : c < n) (x : Bool) {U' : Nat → Nat → Bool} (hU : ∀ i j, i < n → j < n → U' i j = if i = r ∧ j = c then x else U i j) : UsedM (w.setCell ⟨gr r, c, none⟩ (.bool x)) gU gr n U' := by
  refine ⟨fun i hi => (World.cell?_setCell_other w ⟨gr r, c, none⟩ ⟨gU, i, none⟩ _ (fun e => h.ne hr (by injection e))).trans (h.hdr i hi), fun i j hi hj => ?_, fun i hi => ?_, h.inj⟩
  · rw [hU i j hi hj]
    by_cases e : i = r ∧ j = c
    · rw [if_pos e, e.1, e.2]
      exact World.cell?_setCell_same w ⟨gr r, c, none⟩ _ (h.val r c hr hc)
    · rw [if_neg e]
      refine (World.cell?_setCell_other w ⟨gr r, c, none⟩ ⟨gr i, j, none⟩ _ (fun e2 => e ?_)).trans (h.val i j hi hj)
      injection e2 with e3 e4
      exact ⟨(h.inj r i hr hi e3).symm, e4.symm⟩
  · obtain ⟨cs, e⟩ := h.blk i hi
    by_cases e2 : i = r
    · subst e2
      exact ⟨cs.setIfInBounds c (.bool x), by simp [World.setCell, Array.getElem?_modify, e]⟩
    · exact ⟨cs, (Below.heap_setCell w ⟨gr r, c, none⟩ _ (gr i) (fun e3 => e2 (h.inj i r hi hr e3))).trans e⟩
theorem UsedM.turned (h : Kept (fun _ i => OwnU n gr i) w w') {r : Nat} (hr : r < n) (c : Nat) (v : Value) : Kept (fun _ i => OwnU n gr i) w (w'.setCell ⟨gr r, c, none⟩ v) :=
  h.trans ⟨rfl, rfl, rfl, by simp [World.setCell], fun i _ hn => Below.heap_setCell w' ⟨gr r, c, none⟩ _ i (fun e => hn ⟨r, hr, e⟩), fun _ _ h => h⟩
end
/-- What is used, read off the grid. -/
def usedO (o : Nat → Nat → Int) : Nat → Nat → Bool := fun r c => decide (0 ≤ o r c)
theorem usedO_lay (R : Nat) (l : List Nat) (k : Nat) (o : Nat → Nat → Int) (i j : Nat) : usedO (layTo (R + 1) l (k : Nat) o) i j = if i = R ∧ j = l.getD R 0 then true else usedO (layTo R l (k : Nat) o) i j := by
  unfold usedO
  rw [layTo_succ]
  by_cases e : i = R ∧ j = l.getD R 0
  · rw [if_pos e, if_pos e, decide_eq_true (by omega)]
  · rw [if_neg e, if_neg e]
theorem usedO_take (R : Nat) (l : List Nat) (o : Nat → Nat → Int) (i j : Nat) : usedO (layTo (R + 1) l (-1) o) i j = if i = R ∧ j = l.getD R 0 then false else usedO (layTo R l (-1) o) i j := by
  unfold usedO
  rw [layTo_succ]
  by_cases e : i = R ∧ j = l.getD R 0
  · rw [if_pos e, if_pos e, decide_eq_false (by omega)]
  · rw [if_neg e, if_neg e]
/-- What stands when the transversal k is looked for. -/
structure PartS (n k : Nat) (o : Nat → Nat → Int) : Prop where
  lo : ∀ r c, o r c = -1 ∨ 0 ≤ o r c
  top : ∀ c, c < n → (o 0 c < 0 ↔ k ≤ c)
theorem PartS.next {n k : Nat} {o : Nat → Nat → Int} (h : PartS n k o) {l : List Nat} (hn : 0 < n) (hl : l.getD 0 0 = k) : PartS n (k + 1) (layTo n l (k : Nat) o) := by
  refine ⟨lay_ok h.lo k, fun c hc => ?_⟩
  unfold layTo
  by_cases e : 0 < n ∧ c = l.getD 0 0
  · rw [if_pos e]; omega
  · rw [if_neg e]
    have h1 := h.top c hc
    have h2 : c ≠ k := fun e2 => e ⟨hn, by omega⟩
    omega
end Go.Proofs.YtiodednhadnekaaDoor
