/- Words: what is kept while the corners are gathered. -/
import Derived.Test.YtpehhbiodmgjeaaBase7
import Derived.Test.YtpehhbiodmgjeaaPlain17
import Derived.Test.YtpehhbiodmgjeaaW7
import Derived.Deep.RegionHeld
namespace Go.Proofs.Ytpehhbiodmgjeaa
open Go.RowKit
/-- A block of neither a slice of slices nor a variable of that kind. -/
def Plain33 (w : World) (i : Nat) : Prop := ∃ cs t fr, w.heap[i]? = some (.cells cs t fr) ∧ t ≠ 22 ∧ t ≠ 33
/-- The blocks below B and those of other kinds have not turned. -/
structure KeptT (B : Nat) (w w' : World) : Prop where
  os : w'.os = w.os
  tape : w'.tape = w.tape
  output : w'.output = w.output
  size : w.heap.size ≤ w'.heap.size
  block : ∀ i, i < w.heap.size → (i < B ∨ Plain33 w i) → w'.heap[i]? = w.heap[i]?
theorem KeptT.refl (B : Nat) (w : World) : KeptT B w w := ⟨rfl, rfl, rfl, Nat.le_refl _, fun _ _ _ => rfl⟩
theorem Plain33.same {w w' : World} {i : Nat} (h : Plain33 w i) (e : w'.heap[i]? = w.heap[i]?) : Plain33 w' i := by
  obtain ⟨cs, t, fr, h1, h2⟩ := h
  exact ⟨cs, t, fr, e.trans h1, h2⟩
theorem KeptT.trans {B : Nat} {a b c : World} (h : KeptT B a b) (k : KeptT B b c) : KeptT B a c :=
  ⟨k.os.trans h.os, k.tape.trans h.tape, k.output.trans h.output, Nat.le_trans h.size k.size, fun i hi hp => by
    have e := h.block i hi hp
    exact (k.block i (Nat.lt_of_lt_of_le hi h.size) (hp.imp id fun hp => hp.same e)).trans e⟩
theorem KeptT.of {B : Nat} {w w' : World} (h : Below w.heap.size w w') : KeptT B w w' := ⟨h.os, h.tape, h.output, h.size, fun i hi _ => h.block i hi⟩
theorem KeptT.below {B : Nat} {a w w' : World} (h : Below B a w) (k : KeptT B w w') (hB : B ≤ w.heap.size) : Below B a w' :=
  ⟨k.os.trans h.os, k.tape.trans h.tape, k.output.trans h.output, Nat.le_trans h.size k.size, fun i hi => (k.block i (Nat.lt_of_lt_of_le hi hB) (.inl hi)).trans (h.block i hi)⟩
theorem KeptT.grown {B : Nat} {w w' : World} {v : Value} {vs : List Value} (hr : RowV w B v vs) (hg : w.grownBy w' v.ownBlock) : KeptT B w w' :=
  ⟨hg.os, hg.tape, hg.output, hg.size, fun i hi hp => by
    refine hg.block i hi fun e => ?_
    rcases hr.2 with ⟨e3, _⟩ | ⟨g, cap, cur, e3, hb, hh, _⟩
    · rw [e3] at e; simp [Value.ownBlock] at e
    · rw [e3] at e
      simp [Value.ownBlock] at e
      subst e
      rcases hp with hp | ⟨cs, t, fr, h1, h2, _⟩
      · omega
      · rw [hh] at h1
        injection h1 with h1
        injection h1 with _ h6 _
        exact h2 h6.symm⟩
theorem KeptT.set {B : Nat} {w : World} {v0 : Value} {fr : Nat × Nat} (h : w.heap[B]? = some (.cells #[v0] 33 fr)) (v : Value) : KeptT B w (w.setCell ⟨B, 0, none⟩ v) :=
  ⟨rfl, rfl, rfl, by simp [World.setCell], fun i hi hp => Below.heap_setCell w ⟨B, 0, none⟩ v i fun e => by
    have e : i = B := e
    subst e
    rcases hp with hp | ⟨cs, t, fr', h1, _, h3⟩
    · omega
    · rw [h] at h1
      injection h1 with h1
      injection h1 with _ h6 _
      exact h3 h6.symm⟩
/-- A block of other kinds with what it holds. -/
def Box (w : World) (p : Nat) (v : Value) (t : TypeId) : Prop := w.heap[p]? = some (.cells #[v] t (0, 0))
theorem Box.cell {w : World} {p : Nat} {v : Value} {t : TypeId} (h : Box w p v t) : w.cell? ⟨p, 0, none⟩ = some v := by
  rw [cell_of_row w p 0 _ _ _ h]; rfl
theorem Box.kept {B : Nat} {w w' : World} {p : Nat} {v : Value} {t : TypeId} (h : Box w p v t) (h1 : t ≠ 22) (h2 : t ≠ 33) (k : KeptT B w w') : Box w' p v t :=
  (k.block p (lt_of_block h) (.inr ⟨_, _, _, h, h1, h2⟩)).trans h
theorem Box.below {w w' : World} {p : Nat} {v : Value} {t : TypeId} (h : Box w p v t) (k : Below w.heap.size w w') : Box w' p v t := (k.block p (lt_of_block h)).trans h
theorem Box.new (w : World) (v : Value) (t : TypeId) : Box (w.alloc (.cells #[v] t)) w.heap.size v t := heap_alloc_new w _
/-- The block of a slice. -/
def blkV : Value → Nat
  | .slice (some a) _ _ => a.block
  | _ => 0
/-- A row in a block of its own, from B on. -/
def OwnRow (w : World) (B : Nat) (v : Value) (l : List Int) : Prop := ∃ b, B ≤ b ∧ v = .slice (some ⟨b, 0, none⟩) l.length l.length ∧ Own w b l ∧ l.length ≤ 1000000
theorem OwnRow.blk {w : World} {B : Nat} {v : Value} {l : List Int} (h : OwnRow w B v l) : B ≤ blkV v ∧ blkV v < w.heap.size := by
  obtain ⟨b, h1, rfl, h2, _⟩ := h
  exact ⟨h1, h2.lt⟩
theorem OwnRow.same {w w' : World} {B : Nat} {v : Value} {l : List Int} (h : OwnRow w B v l) (e : ∀ (b : Nat) (cs : Array Value) (fr : Nat × Nat), w.heap[b]? = some (Obj.cells cs 3 fr) → w'.heap[b]? = w.heap[b]?) : OwnRow w' B v l := by
  obtain ⟨b, h1, h3, h2, h4⟩ := h
  exact ⟨b, h1, h3, (e b _ _ h2).trans h2, h4⟩
/-- The rows lie in blocks of their own, from B on. -/
def NewR (w : World) (B : Nat) (vs : List Value) (T : List (List Int)) : Prop := vs.length = T.length ∧ (vs.map blkV).Nodup ∧ ∀ j, j < T.length → OwnRow w B (vs.getD j (.int .i64 0)) (T.getD j [])
theorem NewR.nil (w : World) (B : Nat) : NewR w B [] [] := ⟨rfl, List.nodup_nil, fun j hj => by cases hj⟩
theorem NewR.same {w w' : World} {B : Nat} {vs : List Value} {T : List (List Int)} (h : NewR w B vs T) (e : ∀ (b : Nat) (cs : Array Value) (fr : Nat × Nat), w.heap[b]? = some (Obj.cells cs 3 fr) → w'.heap[b]? = w.heap[b]?) : NewR w' B vs T :=
  ⟨h.1, h.2.1, fun j hj => (h.2.2 j hj).same e⟩
theorem NewR.kept {w w' : World} {B : Nat} {vs : List Value} {T : List (List Int)} (h : NewR w B vs T) (k : KeptT B w w') : NewR w' B vs T :=
  h.same fun b cs fr e => k.block b (lt_of_block e) (.inr ⟨_, _, _, e, by decide, by decide⟩)
theorem NewR.below {w w' : World} {B : Nat} {vs : List Value} {T : List (List Int)} (h : NewR w B vs T) (k : Below w.heap.size w w') : NewR w' B vs T := h.kept (KeptT.of k)
theorem NewR.push {w : World} {B s : Nat} {vs : List Value} {T : List (List Int)} {v : Value} {l : List Int} (h : NewR w B vs T) (hv : OwnRow w B v l) (hs : ∀ b ∈ vs.map blkV, b < s) (hb : s ≤ blkV v) : NewR w B (vs ++ [v]) (T ++ [l]) := by
  refine ⟨by simp [h.1], ?_, fun j hj => ?_⟩
  · rw [List.map_append, List.nodup_append]
    refine ⟨h.2.1, by simp, fun a ha b hb2 e => ?_⟩
    rw [List.map_singleton, List.mem_singleton] at hb2
    have := hs a ha
    omega
  · rcases Nat.lt_or_ge j T.length with h1 | h1
    · have e1 : (vs ++ [v]).getD j (.int .i64 0) = vs.getD j (.int .i64 0) := by simp [List.getD_eq_getElem?_getD, List.getElem?_append_left (show j < vs.length by rw [h.1]; exact h1)]
      have e2 : (T ++ [l]).getD j [] = T.getD j [] := by simp [List.getD_eq_getElem?_getD, List.getElem?_append_left h1]
      rw [e1, e2]
      exact h.2.2 j h1
    · have hj2 : j = T.length := by simp at hj; omega
      have e1 : (vs ++ [v]).getD j (.int .i64 0) = v := by rw [hj2, ← h.1]; simp [List.getD_eq_getElem?_getD]
      have e2 : (T ++ [l]).getD j [] = l := by rw [hj2]; simp [List.getD_eq_getElem?_getD]
      rw [e1, e2]
      exact hv
theorem NewR.lt {w : World} {B : Nat} {vs : List Value} {T : List (List Int)} (h : NewR w B vs T) : ∀ b ∈ vs.map blkV, b < w.heap.size := fun b hb => by
  rw [List.mem_map] at hb
  obtain ⟨v, hv, rfl⟩ := hb
  obtain ⟨j, hj, e⟩ := List.getElem_of_mem hv
  have h1 := (h.2.2 j (by rw [← h.1]; exact hj)).blk.2
  have e2 : vs.getD j (.int .i64 0) = v := by simp [List.getD_eq_getElem?_getD, hj, e]
  rw [e2] at h1
  exact h1
/-- What has been gathered. -/
def St (B : Nat) (T : List (List Int)) (w : World) : Prop := ∃ v vs, Box w B v 33 ∧ RowV w B v vs ∧ Rows3 w vs T ∧ NewR w B vs T
theorem St.below {B : Nat} {T : List (List Int)} {w w' : World} (h : St B T w) (hb : Below w.heap.size w w') : St B T w' := by
  obtain ⟨v, vs, h1, h2, h3, h4⟩ := h
  exact ⟨v, vs, h1.below hb, h2.below hb, h3.below hb, h4.below hb⟩
theorem St.lt {B : Nat} {T : List (List Int)} {w : World} (h : St B T w) : B < w.heap.size := by
  obtain ⟨v, vs, h1, _⟩ := h
  exact lt_of_block h1
theorem Rows3.kept {B : Nat} {w w' : World} {vs : List Value} {T : List (List Int)} (h : Rows3 w vs T) (k : KeptT B w w') : Rows3 w' vs T :=
  ⟨h.1, fun j hj => by
    obtain ⟨C, d, h1, h2, h3, h4, h5⟩ := h.2 j hj
    have hblk : ∀ a, C = some a → w'.heap[a.block]? = w.heap[a.block]? := fun a e => by
      obtain ⟨cs, fr, hc⟩ := h5 a e
      exact k.block _ (lt_of_block hc) (.inr ⟨_, _, _, hc, by decide, by decide⟩)
    refine ⟨C, d, h1, h2, h3, ⟨h4.1, h4.2.1, fun hp => ?_⟩, fun a e => ?_⟩
    · obtain ⟨b, off, e, hc⟩ := h4.2.2 hp
      refine ⟨b, off, e, fun j hj => ?_⟩
      rw [← hc j hj]
      exact World.cell?_of_block (a := ⟨b, off + j, none⟩) (hblk ⟨b, off, none⟩ e)
    · obtain ⟨cs, fr, hc⟩ := h5 a e
      exact ⟨cs, fr, (hblk a e).trans hc⟩⟩
/-- A slice of ints in a block of ints stays. -/
theorem Ints.kept {B : Nat} {w w' : World} {A : Option Addr} {n : Nat} {xs : List Int} (h : Ints w A n xs) (ho : Own3 w A) (k : KeptT B w w') : Ints w' A n xs :=
  ⟨h.1, h.2.1, fun hp => by
    obtain ⟨b, off, e, hc⟩ := h.2.2 hp
    obtain ⟨cs, fr, h5⟩ := ho _ e
    exact ⟨b, off, e, fun j hj => by
      rw [← hc j hj]
      exact World.cell?_of_block (a := ⟨b, off + j, none⟩) (k.block b (lt_of_block h5) (.inr ⟨_, _, _, h5, by decide, by decide⟩))⟩⟩
theorem Own3.kept {B : Nat} {w w' : World} {A : Option Addr} (ho : Own3 w A) (k : KeptT B w w') : Own3 w' A := fun a e => by
  obtain ⟨cs, fr, h5⟩ := ho a e
  exact ⟨cs, fr, (k.block _ (lt_of_block h5) (.inr ⟨_, _, _, h5, by decide, by decide⟩)).trans h5⟩
/-- One list more, stored. -/
theorem St.push {B : Nat} {w w' : World} {v v' : Value} {vs us : List Value} {G : List (List Int)} {v0 : Value} (hbx : Box w B v0 33) (hr : RowV w B v vs) (hg : w.grownBy w' v.ownBlock) (hr' : RowV w' B v' us) (hrs : Rows3 w us G) (hnr : NewR w B us G) : St B G (w'.setCell ⟨B, 0, none⟩ v') ∧ KeptT B w (w'.setCell ⟨B, 0, none⟩ v') ∧ Box w' B v0 33 := by
  have hB : w'.heap[B]? = w.heap[B]? := by
    refine hg.block B (lt_of_block hbx) fun e => ?_
    rcases hr.2 with ⟨e3, _⟩ | ⟨g, cap, cur, e3, hb, hh, _⟩
    · rw [e3] at e; simp [Value.ownBlock] at e
    · rw [e3] at e
      simp [Value.ownBlock] at e
      subst e
      unfold Box at hbx
      rw [hh] at hbx
      injection hbx with h1
      injection h1 with _ h6 _
      exact absurd h6 (by decide)
  have hbx' : Box w' B v0 33 := hB.trans hbx
  have k1 := KeptT.grown hr hg
  have k2 := KeptT.set (B := B) hbx' v'
  have hne : v'.ownBlock ≠ some B := fun e => by
    rcases hr'.2 with ⟨e3, _⟩ | ⟨g, cap, cur, e3, hb, hh, _⟩
    · rw [e3] at e; simp [Value.ownBlock] at e
    · rw [e3] at e
      simp [Value.ownBlock] at e
      subst e
      unfold Box at hbx'
      rw [hh] at hbx'
      injection hbx' with h1
      injection h1 with _ h6 _
      exact absurd h6 (by decide)
  refine ⟨⟨v', us, ?_, ?_, (hrs.kept k1).kept k2, (hnr.kept k1).kept k2⟩, k1.trans k2, hbx'⟩
  · unfold Box at hbx' ⊢
    simp [World.setCell, Array.getElem?_modify, hbx']
  · refine World.ownsRow.kept (row := some B) hr' ⟨rfl, rfl, rfl, by simp [World.setCell], fun i hi hp => Below.heap_setCell w' ⟨B, 0, none⟩ v' i fun e => hp (by rw [e])⟩ ?_
    cases hv : v'.ownBlock with
    | none => exact .inl rfl
    | some b => exact .inr (by rw [← hv]; exact hne)
end Go.Proofs.Ytpehhbiodmgjeaa
